/- Functions of the program as Lean functions: printed by a tool of this session (own work). -/
import Derived.Test.YtdbfecfcoephoaaProg
import Derived.Test.YtdbfecfcoephoaaMxY
namespace Go.Proofs.Ytdbfecfcoephoaa.Run
open Go Go.Proofs.Ytdbfecfcoephoaa.Mx
set_option autoImplicit false
set_option linter.unusedVariables false
set_option maxRecDepth 100000
set_option maxHeartbeats 4000000
noncomputable section
def ty2 : TI := ⟨.int .i64, 1, 8, [.int .i64 0], some (.int .i64)⟩
def ty3 : TI := ⟨.int .i64, 1, 8, [.int .i64 0], some (.int .i64)⟩
def ty4 : TI := ⟨.bool, 1, 1, [.bool false], some .bool⟩
def ty5 : TI := ⟨.int .u8, 1, 1, [.int .u8 0], some (.int .u8)⟩
def ty22 : TI := ⟨.slice 38, 1, 24, [.nils], some (.row (.prod (.int .i64) (.prod (.int .i64) (.prod (.int .i64) (.int .i64)))))⟩
def ty23 : TI := ⟨.slice 3, 1, 24, [.nils], some (.row (.int .i64))⟩
def ty25 : TI := ⟨.slice 5, 1, 24, [.nils], some (.row (.int .u8))⟩
def ty26 : TI := ⟨.slice 43, 1, 24, [.nils], some (.row (.prod (.int .i64) (.prod (.int .i64) (.prod (.int .i64) (.prod (.int .i64) (.prod (.int .i64) (.prod (.int .i64) (.prod (.int .i64) (.prod (.int .i64) (.prod (.int .i64) (.prod (.int .i64) (.int .i64))))))))))))⟩
def ty27 : TI := ⟨.arr 4 3, 4, 32, [.int .i64 0, .int .i64 0, .int .i64 0, .int .i64 0], some (.prod (.int .i64) (.prod (.int .i64) (.prod (.int .i64) (.int .i64))))⟩
def ty29 : TI := ⟨.struct [(0, 2), (1, 3), (2, 3), (3, 3), (4, 25), (5, 26), (6, 22), (7, 27)], 11, 136, [.int .i64 0, .int .i64 0, .int .i64 0, .int .i64 0, .nils, .nils, .nils, .int .i64 0, .int .i64 0, .int .i64 0, .int .i64 0], some (.prod (.int .i64) (.prod (.int .i64) (.prod (.int .i64) (.prod (.int .i64) (.prod (.row (.int .u8)) (.prod (.row (.prod (.int .i64) (.prod (.int .i64) (.prod (.int .i64) (.prod (.int .i64) (.prod (.int .i64) (.prod (.int .i64) (.prod (.int .i64) (.prod (.int .i64) (.prod (.int .i64) (.prod (.int .i64) (.int .i64)))))))))))) (.prod (.row (.prod (.int .i64) (.prod (.int .i64) (.prod (.int .i64) (.int .i64))))) (.prod (.int .i64) (.prod (.int .i64) (.prod (.int .i64) (.int .i64)))))))))))⟩
def ty38 : TI := ⟨.struct [(0, 3), (1, 3), (2, 3), (3, 3)], 4, 32, [.int .i64 0, .int .i64 0, .int .i64 0, .int .i64 0], some (.prod (.int .i64) (.prod (.int .i64) (.prod (.int .i64) (.int .i64))))⟩
def ty43 : TI := ⟨.struct [(0, 3), (1, 3), (2, 3), (3, 3), (4, 3), (5, 3), (6, 3), (7, 3), (8, 3), (9, 3), (10, 3)], 11, 88, [.int .i64 0, .int .i64 0, .int .i64 0, .int .i64 0, .int .i64 0, .int .i64 0, .int .i64 0, .int .i64 0, .int .i64 0, .int .i64 0, .int .i64 0], some (.prod (.int .i64) (.prod (.int .i64) (.prod (.int .i64) (.prod (.int .i64) (.prod (.int .i64) (.prod (.int .i64) (.prod (.int .i64) (.prod (.int .i64) (.prod (.int .i64) (.prod (.int .i64) (.int .i64)))))))))))⟩
def ty51 : TI := ⟨.struct [(0, 25), (1, 26), (2, 22)], 3, 72, [.nils, .nils, .nils], some (.prod (.row (.int .u8)) (.prod (.row (.prod (.int .i64) (.prod (.int .i64) (.prod (.int .i64) (.prod (.int .i64) (.prod (.int .i64) (.prod (.int .i64) (.prod (.int .i64) (.prod (.int .i64) (.prod (.int .i64) (.prod (.int .i64) (.int .i64)))))))))))) (.row (.prod (.int .i64) (.prod (.int .i64) (.prod (.int .i64) (.int .i64)))))))⟩
def ty68 : TI := ⟨.arr 6 3, 6, 48, [.int .i64 0, .int .i64 0, .int .i64 0, .int .i64 0, .int .i64 0, .int .i64 0], some (.prod (.int .i64) (.prod (.int .i64) (.prod (.int .i64) (.prod (.int .i64) (.prod (.int .i64) (.int .i64))))))⟩
def ty72 : TI := ⟨.slice 4, 1, 24, [.nils], some (.row .bool)⟩
def ty88 : TI := ⟨.int .u64, 1, 8, [.int .u64 0], some (.int .u64)⟩
def tis : List (Nat × TI) := [(2, ty2), (3, ty3), (4, ty4), (5, ty5), (22, ty22), (23, ty23), (25, ty25), (26, ty26), (27, ty27), (29, ty29), (38, ty38), (43, ty43), (51, ty51), (68, ty68), (72, ty72), (88, ty88)]
theorem ty2_ok : TIok Go.Proofs.Try.prog 2 ty2 := ⟨by kernel_rfl, by kernel_rfl, by kernel_rfl, by kernel_rfl, by kernel_rfl, by kernel_rfl, by kernel_rfl, by kernel_rfl⟩
theorem ty3_ok : TIok Go.Proofs.Try.prog 3 ty3 := ⟨by kernel_rfl, by kernel_rfl, by kernel_rfl, by kernel_rfl, by kernel_rfl, by kernel_rfl, by kernel_rfl, by kernel_rfl⟩
theorem ty4_ok : TIok Go.Proofs.Try.prog 4 ty4 := ⟨by kernel_rfl, by kernel_rfl, by kernel_rfl, by kernel_rfl, by kernel_rfl, by kernel_rfl, by kernel_rfl, by kernel_rfl⟩
theorem ty5_ok : TIok Go.Proofs.Try.prog 5 ty5 := ⟨by kernel_rfl, by kernel_rfl, by kernel_rfl, by kernel_rfl, by kernel_rfl, by kernel_rfl, by kernel_rfl, by kernel_rfl⟩
theorem ty22_ok : TIok Go.Proofs.Try.prog 22 ty22 := ⟨by kernel_rfl, by kernel_rfl, by kernel_rfl, by kernel_rfl, by kernel_rfl, by kernel_rfl, by kernel_rfl, by kernel_rfl⟩
theorem ty23_ok : TIok Go.Proofs.Try.prog 23 ty23 := ⟨by kernel_rfl, by kernel_rfl, by kernel_rfl, by kernel_rfl, by kernel_rfl, by kernel_rfl, by kernel_rfl, by kernel_rfl⟩
theorem ty25_ok : TIok Go.Proofs.Try.prog 25 ty25 := ⟨by kernel_rfl, by kernel_rfl, by kernel_rfl, by kernel_rfl, by kernel_rfl, by kernel_rfl, by kernel_rfl, by kernel_rfl⟩
theorem ty26_ok : TIok Go.Proofs.Try.prog 26 ty26 := ⟨by kernel_rfl, by kernel_rfl, by kernel_rfl, by kernel_rfl, by kernel_rfl, by kernel_rfl, by kernel_rfl, by kernel_rfl⟩
theorem ty27_ok : TIok Go.Proofs.Try.prog 27 ty27 := ⟨by kernel_rfl, by kernel_rfl, by kernel_rfl, by kernel_rfl, by kernel_rfl, by kernel_rfl, by kernel_rfl, by kernel_rfl⟩
theorem ty29_ok : TIok Go.Proofs.Try.prog 29 ty29 := ⟨by kernel_rfl, by kernel_rfl, by kernel_rfl, by kernel_rfl, by kernel_rfl, by kernel_rfl, by kernel_rfl, by kernel_rfl⟩
theorem ty38_ok : TIok Go.Proofs.Try.prog 38 ty38 := ⟨by kernel_rfl, by kernel_rfl, by kernel_rfl, by kernel_rfl, by kernel_rfl, by kernel_rfl, by kernel_rfl, by kernel_rfl⟩
theorem ty43_ok : TIok Go.Proofs.Try.prog 43 ty43 := ⟨by kernel_rfl, by kernel_rfl, by kernel_rfl, by kernel_rfl, by kernel_rfl, by kernel_rfl, by kernel_rfl, by kernel_rfl⟩
theorem ty51_ok : TIok Go.Proofs.Try.prog 51 ty51 := ⟨by kernel_rfl, by kernel_rfl, by kernel_rfl, by kernel_rfl, by kernel_rfl, by kernel_rfl, by kernel_rfl, by kernel_rfl⟩
theorem ty68_ok : TIok Go.Proofs.Try.prog 68 ty68 := ⟨by kernel_rfl, by kernel_rfl, by kernel_rfl, by kernel_rfl, by kernel_rfl, by kernel_rfl, by kernel_rfl, by kernel_rfl⟩
theorem ty72_ok : TIok Go.Proofs.Try.prog 72 ty72 := ⟨by kernel_rfl, by kernel_rfl, by kernel_rfl, by kernel_rfl, by kernel_rfl, by kernel_rfl, by kernel_rfl, by kernel_rfl⟩
theorem ty88_ok : TIok Go.Proofs.Try.prog 88 ty88 := ⟨by kernel_rfl, by kernel_rfl, by kernel_rfl, by kernel_rfl, by kernel_rfl, by kernel_rfl, by kernel_rfl, by kernel_rfl⟩
theorem tis_ok : TIs Go.Proofs.Try.prog tis := (TIs.cons ty2_ok (TIs.cons ty3_ok (TIs.cons ty4_ok (TIs.cons ty5_ok (TIs.cons ty22_ok (TIs.cons ty23_ok (TIs.cons ty25_ok (TIs.cons ty26_ok (TIs.cons ty27_ok (TIs.cons ty29_ok (TIs.cons ty38_ok (TIs.cons ty43_ok (TIs.cons ty51_ok (TIs.cons ty68_ok (TIs.cons ty72_ok (TIs.cons ty88_ok (TIs.nil _)))))))))))))))))
theorem orders : Go.Proofs.Try.prog.follows .mixedOrders = true := by kernel_rfl
/-! f12: adit/aditlaw7.within -/
def f12 (a0 : Int) (a1 : Int) : Option (Int × Unit) :=
 bif Decidable.decide (a1 = 0) then
  none
 else
  Option.bind (α := Int × Unit ⊕ Int × Unit) (
   bif Decidable.decide (Int.tmod a0 a1 < 0) then
    some (Sum.inl (Go.IntKind.wrap Go.IntKind.i64 (Int.tmod a0 a1 + a1), ()))
   else
    some (Sum.inl (Int.tmod a0 a1, ()))
  ) fun y0 =>
   Sum.elim (fun y1 =>
    some ((y1.fst, ()))
   ) (fun z2 =>
    some (z2)
   ) (y0)
def f12.ins : Shape := ⟨[(0, .c (.int .i64)), (1, .c (.int .i64))], []⟩
def f12.outs : List Shape := [⟨[(0, .c (.int .i64))], []⟩]
def f12.S : FnSpec := ⟨f12.ins, f12.outs, [], fun x => f12 x.1 x.2.1⟩
def f12.E (fuel : Nat) : Env := ⟨tis, [], [], [(5, ⟨[(5, .c (.int .i64))], []⟩)], [], [], 0, [], fuel⟩
theorem f12.run : ∀ x, runFn (f12.E 100000000000000000000) Go.Proofs.Try.f12 ((Go.Proofs.Try.f12.body).getD .skip) f12.S x = f12.S.f x := by intro x; kernel_rfl
theorem f12.sound : Sound Go.Proofs.Try.prog 12 f12.S := sound_of_run (fun _ => f12.E 100000000000000000000) (by kernel_rfl) (by kernel_rfl) (by kernel_rfl) orders (fun _ => ⟨tis_ok, EqsOk.nil _, FnsOk.nil⟩) (fun _ => rfl) (by kernel_rfl) (by kernel_rfl) (fun x r h => (f12.run x).trans h)
/-! f67: adit/aditref2.m -/
def f67 (a0 : Int) : Option (Int × Unit) :=
 some ((Go.IntKind.wrap Go.IntKind.u64 (↑(BitVec.toNat (BitVec.ofInt (Go.IntKind.bits Go.IntKind.u64) (Go.IntKind.wrap Go.IntKind.u64 (Go.IntKind.wrap Go.IntKind.u64 (↑(BitVec.toNat (BitVec.ofInt (Go.IntKind.bits Go.IntKind.u64) (Go.IntKind.wrap Go.IntKind.u64 (Go.IntKind.wrap Go.IntKind.u64 (↑(BitVec.toNat (BitVec.ofInt (Go.IntKind.bits Go.IntKind.u64) a0 ^^^ BitVec.ofInt (Go.IntKind.bits Go.IntKind.u64) (Int.fdiv a0 (2 ^ Min.min 30 (Go.IntKind.bits Go.IntKind.u64))))) : Int) * 13787848793156543929)) ^^^ BitVec.ofInt (Go.IntKind.bits Go.IntKind.u64) (Int.fdiv (Go.IntKind.wrap Go.IntKind.u64 (Go.IntKind.wrap Go.IntKind.u64 (↑(BitVec.toNat (BitVec.ofInt (Go.IntKind.bits Go.IntKind.u64) a0 ^^^ BitVec.ofInt (Go.IntKind.bits Go.IntKind.u64) (Int.fdiv a0 (2 ^ Min.min 30 (Go.IntKind.bits Go.IntKind.u64))))) : Int) * 13787848793156543929)) (2 ^ Min.min 27 (Go.IntKind.bits Go.IntKind.u64))))) : Int) * 10723151780598845931)) ^^^ BitVec.ofInt (Go.IntKind.bits Go.IntKind.u64) (Int.fdiv (Go.IntKind.wrap Go.IntKind.u64 (Go.IntKind.wrap Go.IntKind.u64 (↑(BitVec.toNat (BitVec.ofInt (Go.IntKind.bits Go.IntKind.u64) (Go.IntKind.wrap Go.IntKind.u64 (Go.IntKind.wrap Go.IntKind.u64 (↑(BitVec.toNat (BitVec.ofInt (Go.IntKind.bits Go.IntKind.u64) a0 ^^^ BitVec.ofInt (Go.IntKind.bits Go.IntKind.u64) (Int.fdiv a0 (2 ^ Min.min 30 (Go.IntKind.bits Go.IntKind.u64))))) : Int) * 13787848793156543929)) ^^^ BitVec.ofInt (Go.IntKind.bits Go.IntKind.u64) (Int.fdiv (Go.IntKind.wrap Go.IntKind.u64 (Go.IntKind.wrap Go.IntKind.u64 (↑(BitVec.toNat (BitVec.ofInt (Go.IntKind.bits Go.IntKind.u64) a0 ^^^ BitVec.ofInt (Go.IntKind.bits Go.IntKind.u64) (Int.fdiv a0 (2 ^ Min.min 30 (Go.IntKind.bits Go.IntKind.u64))))) : Int) * 13787848793156543929)) (2 ^ Min.min 27 (Go.IntKind.bits Go.IntKind.u64))))) : Int) * 10723151780598845931)) (2 ^ Min.min 31 (Go.IntKind.bits Go.IntKind.u64))))) : Int), ()))
def f67.ins : Shape := ⟨[(0, .c (.int .u64))], []⟩
def f67.outs : List Shape := [⟨[(0, .c (.int .u64))], []⟩]
def f67.S : FnSpec := ⟨f67.ins, f67.outs, [], fun x => f67 x.1⟩
def f67.E (fuel : Nat) : Env := ⟨tis, [], [], [], [], [], 0, [], fuel⟩
theorem f67.run : ∀ x, runFn (f67.E 100000000000000000000) Go.Proofs.Try.f67 ((Go.Proofs.Try.f67.body).getD .skip) f67.S x = f67.S.f x := by intro x; kernel_rfl
theorem f67.sound : Sound Go.Proofs.Try.prog 67 f67.S := sound_of_run (fun _ => f67.E 100000000000000000000) (by kernel_rfl) (by kernel_rfl) (by kernel_rfl) orders (fun _ => ⟨tis_ok, EqsOk.nil _, FnsOk.nil⟩) (fun _ => rfl) (by kernel_rfl) (by kernel_rfl) (fun x r h => (f67.run x).trans h)
/-! f65: adit/aditref2.Mix -/
def f65.L1 (x : List Int × Int × Int × Unit) : Option (Int × Unit) :=
 it (X := List Int × Int × Int × Unit) (fun rec x =>
 bif Decidable.decide (x.snd.snd.fst < (↑(List.length x.fst) : Int)) then
  bif inRange x.snd.snd.fst (List.length x.fst) then
   Option.bind (f67 (Go.IntKind.wrap Go.IntKind.u64 (Go.IntKind.wrap Go.IntKind.u64 (↑(BitVec.toNat (BitVec.ofInt (Go.IntKind.bits Go.IntKind.u64) x.snd.fst ^^^ BitVec.ofInt (Go.IntKind.bits Go.IntKind.u64) (Go.IntKind.wrap Go.IntKind.u64 (List.getD x.fst (Int.toNat x.snd.snd.fst) 0)))) : Int) + 11400714819323198485))) fun y0 =>
    rec (x.fst, y0.fst, Go.IntKind.wrap Go.IntKind.i64 (x.snd.snd.fst + 1), ())
  else
   none
 else
  some ((x.snd.fst, ()))
 ) (100000000000000000000) (x)
def f65 (a0 : Int) (a1 : List Int) : Option (Int × Unit) :=
 Option.bind (f67 (Go.IntKind.wrap Go.IntKind.u64 (Go.IntKind.wrap Go.IntKind.u64 a0 + 11400714819323198485))) fun y0 =>
  f65.L1 ((a1, y0.fst, 0, ()))
def f65.ins : Shape := ⟨[(0, .c (.int .i64)), (1, .c (.row (.int .i64)))], []⟩
def f65.outs : List Shape := [⟨[(0, .c (.int .u64))], []⟩]
def f65.S : FnSpec := ⟨f65.ins, f65.outs, [], fun x => f65 x.1 x.2.1⟩
def f65.E (fuel : Nat) : Env := ⟨tis, [(67, f67.S)], [], [], [(4, ⟨[(1, .c (.row (.int .i64))), (5, .c (.int .u64)), (6, .c (.int .i64))], []⟩)], [], 0, [], fuel⟩
theorem f65.run : ∀ x, runFn (f65.E 100000000000000000000) Go.Proofs.Try.f65 ((Go.Proofs.Try.f65.body).getD .skip) f65.S x = f65.S.f x := by intro x; kernel_rfl
theorem f65.sound : Sound Go.Proofs.Try.prog 65 f65.S := sound_of_run (fun _ => f65.E 100000000000000000000) (by kernel_rfl) (by kernel_rfl) (by kernel_rfl) orders (fun _ => ⟨tis_ok, EqsOk.nil _, (FnsOk.cons f67.sound FnsOk.nil)⟩) (fun _ => rfl) (by kernel_rfl) (by kernel_rfl) (fun x r h => (f65.run x).trans h)
/-! f59: adit/aditref2.Die -/
def f59 (a0 : Int) (a1 : Int) (a2 : List Int) : Option (Int × Unit) :=
 bif Decidable.decide (a0 < 1) then
  some ((0, ()))
 else
  Option.bind (f65 a1 a2) fun y0 =>
   bif Decidable.decide (Go.IntKind.wrap Go.IntKind.u64 a0 = 0) then
    none
   else
    some ((Go.IntKind.wrap Go.IntKind.i64 (Int.tmod y0.fst (Go.IntKind.wrap Go.IntKind.u64 a0)), ()))
def f59.ins : Shape := ⟨[(0, .c (.int .i64)), (1, .c (.int .i64)), (2, .c (.row (.int .i64)))], []⟩
def f59.outs : List Shape := [⟨[(0, .c (.int .i64))], []⟩]
def f59.S : FnSpec := ⟨f59.ins, f59.outs, [], fun x => f59 x.1 x.2.1 x.2.2.1⟩
def f59.E (fuel : Nat) : Env := ⟨tis, [(65, f65.S)], [], [], [], [], 0, [], fuel⟩
theorem f59.run : ∀ x, runFn (f59.E 100000000000000000000) Go.Proofs.Try.f59 ((Go.Proofs.Try.f59.body).getD .skip) f59.S x = f59.S.f x := by intro x; kernel_rfl
theorem f59.sound : Sound Go.Proofs.Try.prog 59 f59.S := sound_of_run (fun _ => f59.E 100000000000000000000) (by kernel_rfl) (by kernel_rfl) (by kernel_rfl) orders (fun _ => ⟨tis_ok, EqsOk.nil _, (FnsOk.cons f65.sound FnsOk.nil)⟩) (fun _ => rfl) (by kernel_rfl) (by kernel_rfl) (fun x r h => (f59.run x).trans h)
/-! f39: adit/aditref4.d -/
def f39 (a0 : Int) (a1 : Int) (a2 : Int) (a3 : Int) (a4 : Int) : Option (Int × Unit) :=
 Option.bind (f59 a4 a0 [a1, a2, a3]) fun y0 =>
  some ((y0.fst, ()))
def f39.ins : Shape := ⟨[(0, .c (.int .i64)), (1, .c (.int .i64)), (2, .c (.int .i64)), (3, .c (.int .i64)), (4, .c (.int .i64))], []⟩
def f39.outs : List Shape := [⟨[(0, .c (.int .i64))], []⟩]
def f39.S : FnSpec := ⟨f39.ins, f39.outs, [], fun x => f39 x.1 x.2.1 x.2.2.1 x.2.2.2.1 x.2.2.2.2.1⟩
def f39.E (fuel : Nat) : Env := ⟨tis, [(59, f59.S)], [], [], [], [], 0, [], fuel⟩
theorem f39.run : ∀ x, runFn (f39.E 100000000000000000000) Go.Proofs.Try.f39 ((Go.Proofs.Try.f39.body).getD .skip) f39.S x = f39.S.f x := by intro x; kernel_rfl
theorem f39.sound : Sound Go.Proofs.Try.prog 39 f39.S := sound_of_run (fun _ => f39.E 100000000000000000000) (by kernel_rfl) (by kernel_rfl) (by kernel_rfl) orders (fun _ => ⟨tis_ok, EqsOk.nil _, (FnsOk.cons f59.sound FnsOk.nil)⟩) (fun _ => rfl) (by kernel_rfl) (by kernel_rfl) (fun x r h => (f39.run x).trans h)
/-! f40: adit/aditref4.dig -/
def f40 (a0 : Int) (a1 : Int) (a2 : Bool) (a3 : List Int) : Option (Bool × List Int × Unit) :=
 bif inRange (Go.IntKind.wrap Go.IntKind.i64 (Go.IntKind.wrap Go.IntKind.i64 (a1 * 24) + a0)) (List.length a3) then
  bif List.getD a3 (Int.toNat (Go.IntKind.wrap Go.IntKind.i64 (Go.IntKind.wrap Go.IntKind.i64 (a1 * 24) + a0))) 0 != 0 then
   some ((a2, a3, ()))
  else
   bif inRange (Go.IntKind.wrap Go.IntKind.i64 (Go.IntKind.wrap Go.IntKind.i64 (a1 * 24) + a0)) (List.length a3) then
    bif !a2 then
     bif inRange (Go.IntKind.wrap Go.IntKind.i64 (Go.IntKind.wrap Go.IntKind.i64 (a1 * 24) + a0)) (List.length (List.set a3 (Int.toNat (Go.IntKind.wrap Go.IntKind.i64 (Go.IntKind.wrap Go.IntKind.i64 (a1 * 24) + a0))) 1)) then
      some ((Bool.true, List.set (List.set a3 (Int.toNat (Go.IntKind.wrap Go.IntKind.i64 (Go.IntKind.wrap Go.IntKind.i64 (a1 * 24) + a0))) 1) (Int.toNat (Go.IntKind.wrap Go.IntKind.i64 (Go.IntKind.wrap Go.IntKind.i64 (a1 * 24) + a0))) 2, ()))
     else
      none
    else
     some ((Bool.true, List.set a3 (Int.toNat (Go.IntKind.wrap Go.IntKind.i64 (Go.IntKind.wrap Go.IntKind.i64 (a1 * 24) + a0))) 1, ()))
   else
    none
 else
  none
def f40.ins : Shape := ⟨[(0, .c (.own 0)), (1, .c (.int .i64)), (2, .c (.int .i64)), (3, .c (.bool))], [(0, .arr (.int .u8))]⟩
def f40.outs : List Shape := [⟨[(0, .c (.bool))], [(0, .arr (.int .u8))]⟩]
def f40.S : FnSpec := ⟨f40.ins, f40.outs, [0], fun x => f40 x.1 x.2.1 x.2.2.1 x.2.2.2.1⟩
def f40.E (fuel : Nat) : Env := ⟨tis, [], [], [], [], [], 1, [0], fuel⟩
theorem f40.run : ∀ x, runFn (f40.E 100000000000000000000) Go.Proofs.Try.f40 ((Go.Proofs.Try.f40.body).getD .skip) f40.S x = f40.S.f x := by intro x; kernel_rfl
theorem f40.sound : Sound Go.Proofs.Try.prog 40 f40.S := sound_of_run (fun _ => f40.E 100000000000000000000) (by kernel_rfl) (by kernel_rfl) (by kernel_rfl) orders (fun _ => ⟨tis_ok, EqsOk.nil _, FnsOk.nil⟩) (fun _ => rfl) (by kernel_rfl) (by kernel_rfl) (fun x r h => (f40.run x).trans h)
/-! f41: adit/aditref4.toward -/
def f41 (a0 : Int) (a1 : Int) : Option (Int × Unit) :=
 bif Decidable.decide (a0 < a1) then
  some ((Go.IntKind.wrap Go.IntKind.i64 (a0 + 1), ()))
 else
  some ((Go.IntKind.wrap Go.IntKind.i64 (a0 - 1), ()))
def f41.ins : Shape := ⟨[(0, .c (.int .i64)), (1, .c (.int .i64))], []⟩
def f41.outs : List Shape := [⟨[(0, .c (.int .i64))], []⟩]
def f41.S : FnSpec := ⟨f41.ins, f41.outs, [], fun x => f41 x.1 x.2.1⟩
def f41.E (fuel : Nat) : Env := ⟨tis, [], [], [], [], [], 0, [], fuel⟩
theorem f41.run : ∀ x, runFn (f41.E 100000000000000000000) Go.Proofs.Try.f41 ((Go.Proofs.Try.f41.body).getD .skip) f41.S x = f41.S.f x := by intro x; kernel_rfl
theorem f41.sound : Sound Go.Proofs.Try.prog 41 f41.S := sound_of_run (fun _ => f41.E 100000000000000000000) (by kernel_rfl) (by kernel_rfl) (by kernel_rfl) orders (fun _ => ⟨tis_ok, EqsOk.nil _, FnsOk.nil⟩) (fun _ => rfl) (by kernel_rfl) (by kernel_rfl) (fun x r h => (f41.run x).trans h)
/-! f57: adit/aditref3.In -/
def f57 (a0 : Int) (a1 : Int) : Option (Bool × Unit) :=
 bif Decidable.decide (a0 ≥ 0) then
  bif Decidable.decide (a0 < 24) then
   bif Decidable.decide (a1 ≥ 0) then
    some ((Decidable.decide (a1 < 16), ()))
   else
    some ((Bool.false, ()))
  else
   some ((Bool.false, ()))
 else
  some ((Bool.false, ()))
def f57.ins : Shape := ⟨[(0, .c (.int .i64)), (1, .c (.int .i64))], []⟩
def f57.outs : List Shape := [⟨[(0, .c (.bool))], []⟩]
def f57.S : FnSpec := ⟨f57.ins, f57.outs, [], fun x => f57 x.1 x.2.1⟩
def f57.E (fuel : Nat) : Env := ⟨tis, [], [], [], [], [], 0, [], fuel⟩
theorem f57.run : ∀ x, runFn (f57.E 100000000000000000000) Go.Proofs.Try.f57 ((Go.Proofs.Try.f57.body).getD .skip) f57.S x = f57.S.f x := by intro x; kernel_rfl
theorem f57.sound : Sound Go.Proofs.Try.prog 57 f57.S := sound_of_run (fun _ => f57.E 100000000000000000000) (by kernel_rfl) (by kernel_rfl) (by kernel_rfl) orders (fun _ => ⟨tis_ok, EqsOk.nil _, FnsOk.nil⟩) (fun _ => rfl) (by kernel_rfl) (by kernel_rfl) (fun x r h => (f57.run x).trans h)
/-! f36: adit/aditref3.At -/
def f36 (a0 : List Int) (a1 : Int) (a2 : Int) : Option (Int × Unit) :=
 Option.bind (f57 a1 a2) fun y0 =>
  bif !y0.fst then
   some ((0, ()))
  else
   bif Decidable.decide (Go.IntKind.wrap Go.IntKind.i64 (Go.IntKind.wrap Go.IntKind.i64 (a2 * 24) + a1) ≥ (↑(List.length a0) : Int)) then
    some ((0, ()))
   else
    bif inRange (Go.IntKind.wrap Go.IntKind.i64 (Go.IntKind.wrap Go.IntKind.i64 (a2 * 24) + a1)) (List.length a0) then
     some ((Go.IntKind.wrap Go.IntKind.i64 (List.getD a0 (Int.toNat (Go.IntKind.wrap Go.IntKind.i64 (Go.IntKind.wrap Go.IntKind.i64 (a2 * 24) + a1))) 0), ()))
    else
     none
def f36.ins : Shape := ⟨[(0, .c (.row (.int .u8))), (1, .c (.int .i64)), (2, .c (.int .i64))], []⟩
def f36.outs : List Shape := [⟨[(0, .c (.int .i64))], []⟩]
def f36.S : FnSpec := ⟨f36.ins, f36.outs, [], fun x => f36 x.1 x.2.1 x.2.2.1⟩
def f36.E (fuel : Nat) : Env := ⟨tis, [(57, f57.S)], [], [], [], [], 0, [], fuel⟩
theorem f36.run : ∀ x, runFn (f36.E 100000000000000000000) Go.Proofs.Try.f36 ((Go.Proofs.Try.f36.body).getD .skip) f36.S x = f36.S.f x := by intro x; kernel_rfl
theorem f36.sound : Sound Go.Proofs.Try.prog 36 f36.S := sound_of_run (fun _ => f36.E 100000000000000000000) (by kernel_rfl) (by kernel_rfl) (by kernel_rfl) orders (fun _ => ⟨tis_ok, EqsOk.nil _, (FnsOk.cons f57.sound FnsOk.nil)⟩) (fun _ => rfl) (by kernel_rfl) (by kernel_rfl) (fun x r h => (f36.run x).trans h)
/-! f24: adit/aditref3.Walk -/
def f24 (a0 : Int) : Option (Bool × Unit) :=
 bif Decidable.decide (a0 ≥ 1) then
  some ((Decidable.decide (a0 ≤ 5), ()))
 else
  some ((Bool.false, ()))
def f24.ins : Shape := ⟨[(0, .c (.int .i64))], []⟩
def f24.outs : List Shape := [⟨[(0, .c (.bool))], []⟩]
def f24.S : FnSpec := ⟨f24.ins, f24.outs, [], fun x => f24 x.1⟩
def f24.E (fuel : Nat) : Env := ⟨tis, [], [], [], [], [], 0, [], fuel⟩
theorem f24.run : ∀ x, runFn (f24.E 100000000000000000000) Go.Proofs.Try.f24 ((Go.Proofs.Try.f24.body).getD .skip) f24.S x = f24.S.f x := by intro x; kernel_rfl
theorem f24.sound : Sound Go.Proofs.Try.prog 24 f24.S := sound_of_run (fun _ => f24.E 100000000000000000000) (by kernel_rfl) (by kernel_rfl) (by kernel_rfl) orders (fun _ => ⟨tis_ok, EqsOk.nil _, FnsOk.nil⟩) (fun _ => rfl) (by kernel_rfl) (by kernel_rfl) (fun x r h => (f24.run x).trans h)
/-! f42: adit/aditref3.Field -/
def f42.L1 (k0 : List Int × List Bool × Int × List Int × List Int × Unit → Option (List Int × Unit)) (x : List Int × List Bool × Int × Int × Int × List Int × List Int × Unit) : Option (List Int × Unit) :=
 it (X := List Int × List Bool × Int × Int × Int × List Int × List Int × Unit) (fun rec x =>
 bif Decidable.decide (x.snd.snd.snd.snd.fst < 4) then
  Option.bind (α := List Int × List Bool × Int × Int × Int × Int × Int × List Int × List Int × Unit ⊕ List Int × Unit) (
   bif x.snd.snd.snd.snd.fst == 0 then
    some (Sum.inl (x.fst, x.snd.fst, x.snd.snd.fst, x.snd.snd.snd.fst, x.snd.snd.snd.snd.fst, Int.tmod x.snd.snd.snd.fst 24, Go.IntKind.wrap Go.IntKind.i64 (Go.IntKind.wrap Go.IntKind.i64 (Int.tdiv x.snd.snd.snd.fst 24) - 1), x.snd.snd.snd.snd.snd.fst, x.snd.snd.snd.snd.snd.snd.fst, ()))
   else
    bif x.snd.snd.snd.snd.fst == 1 then
     some (Sum.inl (x.fst, x.snd.fst, x.snd.snd.fst, x.snd.snd.snd.fst, x.snd.snd.snd.snd.fst, Go.IntKind.wrap Go.IntKind.i64 (Int.tmod x.snd.snd.snd.fst 24 + 1), Go.IntKind.wrap Go.IntKind.i64 (Int.tdiv x.snd.snd.snd.fst 24), x.snd.snd.snd.snd.snd.fst, x.snd.snd.snd.snd.snd.snd.fst, ()))
    else
     bif x.snd.snd.snd.snd.fst == 2 then
      some (Sum.inl (x.fst, x.snd.fst, x.snd.snd.fst, x.snd.snd.snd.fst, x.snd.snd.snd.snd.fst, Int.tmod x.snd.snd.snd.fst 24, Go.IntKind.wrap Go.IntKind.i64 (Go.IntKind.wrap Go.IntKind.i64 (Int.tdiv x.snd.snd.snd.fst 24) + 1), x.snd.snd.snd.snd.snd.fst, x.snd.snd.snd.snd.snd.snd.fst, ()))
     else
      bif x.snd.snd.snd.snd.fst == 3 then
       some (Sum.inl (x.fst, x.snd.fst, x.snd.snd.fst, x.snd.snd.snd.fst, x.snd.snd.snd.snd.fst, Go.IntKind.wrap Go.IntKind.i64 (Int.tmod x.snd.snd.snd.fst 24 - 1), Go.IntKind.wrap Go.IntKind.i64 (Int.tdiv x.snd.snd.snd.fst 24), x.snd.snd.snd.snd.snd.fst, x.snd.snd.snd.snd.snd.snd.fst, ()))
      else
       some (Sum.inl (x.fst, x.snd.fst, x.snd.snd.fst, x.snd.snd.snd.fst, x.snd.snd.snd.snd.fst, Int.tmod x.snd.snd.snd.fst 24, Go.IntKind.wrap Go.IntKind.i64 (Int.tdiv x.snd.snd.snd.fst 24), x.snd.snd.snd.snd.snd.fst, x.snd.snd.snd.snd.snd.snd.fst, ()))
  ) fun y0 =>
   Sum.elim (fun y1 =>
    Option.bind (f57 y1.snd.snd.snd.snd.snd.fst y1.snd.snd.snd.snd.snd.snd.fst) fun y2 =>
     bif y2.fst then
      bif inRange (Go.IntKind.wrap Go.IntKind.i64 (Go.IntKind.wrap Go.IntKind.i64 (y1.snd.snd.snd.snd.snd.snd.fst * 24) + y1.snd.snd.snd.snd.snd.fst)) (List.length y1.snd.snd.snd.snd.snd.snd.snd.fst) then
       bif Decidable.decide (List.getD y1.snd.snd.snd.snd.snd.snd.snd.fst (Int.toNat (Go.IntKind.wrap Go.IntKind.i64 (Go.IntKind.wrap Go.IntKind.i64 (y1.snd.snd.snd.snd.snd.snd.fst * 24) + y1.snd.snd.snd.snd.snd.fst))) 0 < 0) then
        Option.bind (f36 y1.fst y1.snd.snd.snd.snd.snd.fst y1.snd.snd.snd.snd.snd.snd.fst) fun y3 =>
         Option.bind (f24 y3.fst) fun y4 =>
          bif y4.fst then
           bif Decidable.decide (Go.IntKind.wrap Go.IntKind.i64 (Go.IntKind.wrap Go.IntKind.i64 (y1.snd.snd.snd.snd.snd.snd.fst * 24) + y1.snd.snd.snd.snd.snd.fst) ≥ (↑(List.length y1.snd.fst) : Int)) then
            bif inRange y1.snd.snd.snd.fst (List.length y1.snd.snd.snd.snd.snd.snd.snd.fst) then
             bif inRange (Go.IntKind.wrap Go.IntKind.i64 (Go.IntKind.wrap Go.IntKind.i64 (y1.snd.snd.snd.snd.snd.snd.fst * 24) + y1.snd.snd.snd.snd.snd.fst)) (List.length y1.snd.snd.snd.snd.snd.snd.snd.fst) then
              bif Decidable.decide (List.length y1.snd.snd.snd.snd.snd.snd.snd.snd.fst + 1 ≤ limit 8) then
               let s0 : List Int := List.set y1.snd.snd.snd.snd.snd.snd.snd.fst (Int.toNat (Go.IntKind.wrap Go.IntKind.i64 (Go.IntKind.wrap Go.IntKind.i64 (y1.snd.snd.snd.snd.snd.snd.fst * 24) + y1.snd.snd.snd.snd.snd.fst))) (Go.IntKind.wrap Go.IntKind.i64 (List.getD y1.snd.snd.snd.snd.snd.snd.snd.fst (Int.toNat y1.snd.snd.snd.fst) 0 + 1))
               rec (y1.fst, y1.snd.fst, y1.snd.snd.fst, y1.snd.snd.snd.fst, Go.IntKind.wrap Go.IntKind.i64 (y1.snd.snd.snd.snd.fst + 1), s0, y1.snd.snd.snd.snd.snd.snd.snd.snd.fst ++ [Go.IntKind.wrap Go.IntKind.i64 (Go.IntKind.wrap Go.IntKind.i64 (y1.snd.snd.snd.snd.snd.snd.fst * 24) + y1.snd.snd.snd.snd.snd.fst)], ())
              else
               none
             else
              none
            else
             none
           else
            bif inRange (Go.IntKind.wrap Go.IntKind.i64 (Go.IntKind.wrap Go.IntKind.i64 (y1.snd.snd.snd.snd.snd.snd.fst * 24) + y1.snd.snd.snd.snd.snd.fst)) (List.length y1.snd.fst) then
             bif !List.getD y1.snd.fst (Int.toNat (Go.IntKind.wrap Go.IntKind.i64 (Go.IntKind.wrap Go.IntKind.i64 (y1.snd.snd.snd.snd.snd.snd.fst * 24) + y1.snd.snd.snd.snd.snd.fst))) Bool.false then
              bif inRange y1.snd.snd.snd.fst (List.length y1.snd.snd.snd.snd.snd.snd.snd.fst) then
               bif inRange (Go.IntKind.wrap Go.IntKind.i64 (Go.IntKind.wrap Go.IntKind.i64 (y1.snd.snd.snd.snd.snd.snd.fst * 24) + y1.snd.snd.snd.snd.snd.fst)) (List.length y1.snd.snd.snd.snd.snd.snd.snd.fst) then
                bif Decidable.decide (List.length y1.snd.snd.snd.snd.snd.snd.snd.snd.fst + 1 ≤ limit 8) then
                 let s0 : List Int := List.set y1.snd.snd.snd.snd.snd.snd.snd.fst (Int.toNat (Go.IntKind.wrap Go.IntKind.i64 (Go.IntKind.wrap Go.IntKind.i64 (y1.snd.snd.snd.snd.snd.snd.fst * 24) + y1.snd.snd.snd.snd.snd.fst))) (Go.IntKind.wrap Go.IntKind.i64 (List.getD y1.snd.snd.snd.snd.snd.snd.snd.fst (Int.toNat y1.snd.snd.snd.fst) 0 + 1))
                 rec (y1.fst, y1.snd.fst, y1.snd.snd.fst, y1.snd.snd.snd.fst, Go.IntKind.wrap Go.IntKind.i64 (y1.snd.snd.snd.snd.fst + 1), s0, y1.snd.snd.snd.snd.snd.snd.snd.snd.fst ++ [Go.IntKind.wrap Go.IntKind.i64 (Go.IntKind.wrap Go.IntKind.i64 (y1.snd.snd.snd.snd.snd.snd.fst * 24) + y1.snd.snd.snd.snd.snd.fst)], ())
                else
                 none
               else
                none
              else
               none
             else
              rec (y1.fst, y1.snd.fst, y1.snd.snd.fst, y1.snd.snd.snd.fst, Go.IntKind.wrap Go.IntKind.i64 (y1.snd.snd.snd.snd.fst + 1), y1.snd.snd.snd.snd.snd.snd.snd.fst, y1.snd.snd.snd.snd.snd.snd.snd.snd.fst, ())
            else
             none
          else
           rec (y1.fst, y1.snd.fst, y1.snd.snd.fst, y1.snd.snd.snd.fst, Go.IntKind.wrap Go.IntKind.i64 (y1.snd.snd.snd.snd.fst + 1), y1.snd.snd.snd.snd.snd.snd.snd.fst, y1.snd.snd.snd.snd.snd.snd.snd.snd.fst, ())
       else
        rec (y1.fst, y1.snd.fst, y1.snd.snd.fst, y1.snd.snd.snd.fst, Go.IntKind.wrap Go.IntKind.i64 (y1.snd.snd.snd.snd.fst + 1), y1.snd.snd.snd.snd.snd.snd.snd.fst, y1.snd.snd.snd.snd.snd.snd.snd.snd.fst, ())
      else
       none
     else
      rec (y1.fst, y1.snd.fst, y1.snd.snd.fst, y1.snd.snd.snd.fst, Go.IntKind.wrap Go.IntKind.i64 (y1.snd.snd.snd.snd.fst + 1), y1.snd.snd.snd.snd.snd.snd.snd.fst, y1.snd.snd.snd.snd.snd.snd.snd.snd.fst, ())
   ) (fun z5 =>
    some (z5)
   ) (y0)
 else
  k0 (x.fst, x.snd.fst, Go.IntKind.wrap Go.IntKind.i64 (x.snd.snd.fst + 1), x.snd.snd.snd.snd.snd.fst, x.snd.snd.snd.snd.snd.snd.fst, ())
 ) (100000000000000000000) (x)
def f42.L2 (x : List Int × List Bool × Int × List Int × List Int × Unit) : Option (List Int × Unit) :=
 it (X := List Int × List Bool × Int × List Int × List Int × Unit) (fun rec x =>
 bif Decidable.decide (x.snd.snd.fst < (↑(List.length x.snd.snd.snd.snd.fst) : Int)) then
  bif inRange x.snd.snd.fst (List.length x.snd.snd.snd.snd.fst) then
   f42.L1 rec ((x.fst, x.snd.fst, x.snd.snd.fst, List.getD x.snd.snd.snd.snd.fst (Int.toNat x.snd.snd.fst) 0, 0, x.snd.snd.snd.fst, x.snd.snd.snd.snd.fst, ()))
  else
   none
 else
  some ((x.snd.snd.snd.fst, ()))
 ) (100000000000000000000) (x)
def f42.L3 (x : List Int × List Bool × Int × List Int × List Int × Unit) : Option (List Int × Unit) :=
 it (X := List Int × List Bool × Int × List Int × List Int × Unit) (fun rec x =>
 bif Decidable.decide (x.snd.snd.fst < 384) then
  bif inRange x.snd.snd.fst (List.length x.snd.snd.snd.fst) then
   bif List.getD x.snd.snd.snd.fst (Int.toNat x.snd.snd.fst) 0 == 0 then
    bif Decidable.decide (List.length x.snd.snd.snd.snd.fst + 1 ≤ limit 8) then
     rec (x.fst, x.snd.fst, Go.IntKind.wrap Go.IntKind.i64 (x.snd.snd.fst + 1), x.snd.snd.snd.fst, x.snd.snd.snd.snd.fst ++ [x.snd.snd.fst], ())
    else
     none
   else
    rec (x.fst, x.snd.fst, Go.IntKind.wrap Go.IntKind.i64 (x.snd.snd.fst + 1), x.snd.snd.snd.fst, x.snd.snd.snd.snd.fst, ())
  else
   none
 else
  f42.L2 ((x.fst, x.snd.fst, 0, x.snd.snd.snd.fst, x.snd.snd.snd.snd.fst, ()))
 ) (100000000000000000000) (x)
def f42.L4 (x : List Int × List Bool × List Int × Int × List Int × Unit) : Option (List Int × Unit) :=
 it (X := List Int × List Bool × List Int × Int × List Int × Unit) (fun rec x =>
 bif Decidable.decide (x.snd.snd.snd.fst < (↑(List.length x.snd.snd.fst) : Int)) then
  bif inRange x.snd.snd.snd.fst (List.length x.snd.snd.fst) then
   bif Decidable.decide (List.getD x.snd.snd.fst (Int.toNat x.snd.snd.snd.fst) 0 ≥ 0) then
    bif Decidable.decide (List.getD x.snd.snd.fst (Int.toNat x.snd.snd.snd.fst) 0 < 384) then
     Option.bind (f36 x.fst (Int.tmod (List.getD x.snd.snd.fst (Int.toNat x.snd.snd.snd.fst) 0) 24) (Go.IntKind.wrap Go.IntKind.i64 (Int.tdiv (List.getD x.snd.snd.fst (Int.toNat x.snd.snd.snd.fst) 0) 24))) fun y0 =>
      Option.bind (f24 y0.fst) fun y1 =>
       bif y1.fst then
        bif inRange (List.getD x.snd.snd.fst (Int.toNat x.snd.snd.snd.fst) 0) (List.length x.snd.snd.snd.snd.fst) then
         rec (x.fst, x.snd.fst, x.snd.snd.fst, Go.IntKind.wrap Go.IntKind.i64 (x.snd.snd.snd.fst + 1), List.set x.snd.snd.snd.snd.fst (Int.toNat (List.getD x.snd.snd.fst (Int.toNat x.snd.snd.snd.fst) 0)) 0, ())
        else
         none
       else
        rec (x.fst, x.snd.fst, x.snd.snd.fst, Go.IntKind.wrap Go.IntKind.i64 (x.snd.snd.snd.fst + 1), x.snd.snd.snd.snd.fst, ())
    else
     rec (x.fst, x.snd.fst, x.snd.snd.fst, Go.IntKind.wrap Go.IntKind.i64 (x.snd.snd.snd.fst + 1), x.snd.snd.snd.snd.fst, ())
   else
    rec (x.fst, x.snd.fst, x.snd.snd.fst, Go.IntKind.wrap Go.IntKind.i64 (x.snd.snd.snd.fst + 1), x.snd.snd.snd.snd.fst, ())
  else
   none
 else
  f42.L3 ((x.fst, x.snd.fst, 0, x.snd.snd.snd.snd.fst, [], ()))
 ) (100000000000000000000) (x)
def f42.L5 (x : List Int × List Bool × List Int × Int × List Int × Unit) : Option (List Int × Unit) :=
 it (X := List Int × List Bool × List Int × Int × List Int × Unit) (fun rec x =>
 bif Decidable.decide (x.snd.snd.snd.fst < 384) then
  bif inRange x.snd.snd.snd.fst (List.length x.snd.snd.snd.snd.fst) then
   rec (x.fst, x.snd.fst, x.snd.snd.fst, Go.IntKind.wrap Go.IntKind.i64 (x.snd.snd.snd.fst + 1), List.set x.snd.snd.snd.snd.fst (Int.toNat x.snd.snd.snd.fst) (-1), ())
  else
   none
 else
  f42.L4 ((x.fst, x.snd.fst, x.snd.snd.fst, 0, x.snd.snd.snd.snd.fst, ()))
 ) (100000000000000000000) (x)
def f42 (a0 : List Int) (a1 : List Bool) (a2 : List Int) : Option (List Int × Unit) :=
 f42.L5 ((a0, a1, a2, 0, List.replicate 384 0, ()))
def f42.ins : Shape := ⟨[(0, .c (.row (.int .u8))), (1, .c (.row .bool)), (2, .c (.row (.int .i64)))], []⟩
def f42.outs : List Shape := [⟨[(0, .c (.own 0))], [(0, .arr (.int .i64))]⟩]
def f42.S : FnSpec := ⟨f42.ins, f42.outs, [], fun x => f42 x.1 x.2.1 x.2.2.1⟩
def f42.E (fuel : Nat) : Env := ⟨tis, [(57, f57.S), (36, f36.S), (24, f24.S)], [], [(36, ⟨[(0, .c (.row (.int .u8))), (1, .c (.row .bool)), (7, .c (.own 0)), (11, .c (.own 1)), (13, .c (.int .i64)), (14, .c (.int .i64)), (15, .c (.int .i64)), (16, .c (.int .i64)), (17, .c (.int .i64))], [(0, .arr (.int .i64)), (1, .arr (.int .i64))]⟩)], [(4, ⟨[(0, .c (.row (.int .u8))), (1, .c (.row .bool)), (2, .c (.row (.int .i64))), (7, .c (.own 0)), (8, .c (.int .i64))], [(0, .arr (.int .i64))]⟩), (8, ⟨[(0, .c (.row (.int .u8))), (1, .c (.row .bool)), (2, .c (.row (.int .i64))), (7, .c (.own 0)), (9, .c (.int .i64))], [(0, .arr (.int .i64))]⟩), (15, ⟨[(0, .c (.row (.int .u8))), (1, .c (.row .bool)), (7, .c (.own 0)), (11, .c (.own 1)), (12, .c (.int .i64))], [(0, .arr (.int .i64)), (1, .arr (.int .i64))]⟩), (20, ⟨[(0, .c (.row (.int .u8))), (1, .c (.row .bool)), (7, .c (.own 0)), (11, .c (.own 1)), (13, .c (.int .i64))], [(0, .arr (.int .i64)), (1, .arr (.int .i64))]⟩), (24, ⟨[(0, .c (.row (.int .u8))), (1, .c (.row .bool)), (7, .c (.own 0)), (11, .c (.own 1)), (13, .c (.int .i64)), (14, .c (.int .i64)), (15, .c (.int .i64))], [(0, .arr (.int .i64)), (1, .arr (.int .i64))]⟩)], [], 0, [], fuel⟩
theorem f42.run : ∀ x, runFn (f42.E 100000000000000000000) Go.Proofs.Try.f42 ((Go.Proofs.Try.f42.body).getD .skip) f42.S x = f42.S.f x := by intro x; kernel_rfl
theorem f42.sound : Sound Go.Proofs.Try.prog 42 f42.S := sound_of_run (fun _ => f42.E 100000000000000000000) (by kernel_rfl) (by kernel_rfl) (by kernel_rfl) orders (fun _ => ⟨tis_ok, EqsOk.nil _, (FnsOk.cons f57.sound (FnsOk.cons f36.sound (FnsOk.cons f24.sound FnsOk.nil)))⟩) (fun _ => rfl) (by kernel_rfl) (by kernel_rfl) (fun x r h => (f42.run x).trans h)
/-! f43: adit/aditref4.pick -/
def f43.L1 (x : List Int × List Int × Int × List Bool × Int × Int × Int × Int × List Int × Unit) : Option (Int × Unit) :=
 it (X := List Int × List Int × Int × List Bool × Int × Int × Int × Int × List Int × Unit) (fun rec x =>
 bif Decidable.decide (x.snd.snd.snd.snd.snd.snd.snd.fst < 384) then
  bif inRange x.snd.snd.snd.snd.snd.snd.snd.fst (List.length x.fst) then
   bif List.getD x.fst (Int.toNat x.snd.snd.snd.snd.snd.snd.snd.fst) 0 == 1 then
    bif inRange x.snd.snd.snd.snd.snd.snd.snd.fst (List.length x.snd.fst) then
     bif Decidable.decide (List.getD x.snd.fst (Int.toNat x.snd.snd.snd.snd.snd.snd.snd.fst) 0 ≥ x.snd.snd.fst) then
      bif inRange x.snd.snd.snd.snd.snd.snd.snd.fst (List.length x.snd.snd.snd.fst) then
       bif !List.getD x.snd.snd.snd.fst (Int.toNat x.snd.snd.snd.snd.snd.snd.snd.fst) Bool.false then
        bif Decidable.decide (List.length x.snd.snd.snd.snd.snd.snd.snd.snd.fst + 1 ≤ limit 8) then
         rec (x.fst, x.snd.fst, x.snd.snd.fst, x.snd.snd.snd.fst, x.snd.snd.snd.snd.fst, x.snd.snd.snd.snd.snd.fst, x.snd.snd.snd.snd.snd.snd.fst, Go.IntKind.wrap Go.IntKind.i64 (x.snd.snd.snd.snd.snd.snd.snd.fst + 1), x.snd.snd.snd.snd.snd.snd.snd.snd.fst ++ [x.snd.snd.snd.snd.snd.snd.snd.fst], ())
        else
         none
       else
        rec (x.fst, x.snd.fst, x.snd.snd.fst, x.snd.snd.snd.fst, x.snd.snd.snd.snd.fst, x.snd.snd.snd.snd.snd.fst, x.snd.snd.snd.snd.snd.snd.fst, Go.IntKind.wrap Go.IntKind.i64 (x.snd.snd.snd.snd.snd.snd.snd.fst + 1), x.snd.snd.snd.snd.snd.snd.snd.snd.fst, ())
      else
       none
     else
      rec (x.fst, x.snd.fst, x.snd.snd.fst, x.snd.snd.snd.fst, x.snd.snd.snd.snd.fst, x.snd.snd.snd.snd.snd.fst, x.snd.snd.snd.snd.snd.snd.fst, Go.IntKind.wrap Go.IntKind.i64 (x.snd.snd.snd.snd.snd.snd.snd.fst + 1), x.snd.snd.snd.snd.snd.snd.snd.snd.fst, ())
    else
     none
   else
    rec (x.fst, x.snd.fst, x.snd.snd.fst, x.snd.snd.snd.fst, x.snd.snd.snd.snd.fst, x.snd.snd.snd.snd.snd.fst, x.snd.snd.snd.snd.snd.snd.fst, Go.IntKind.wrap Go.IntKind.i64 (x.snd.snd.snd.snd.snd.snd.snd.fst + 1), x.snd.snd.snd.snd.snd.snd.snd.snd.fst, ())
  else
   none
 else
  bif (↑(List.length x.snd.snd.snd.snd.snd.snd.snd.snd.fst) : Int) == 0 then
   some ((-1, ()))
  else
   Option.bind (f39 x.snd.snd.snd.snd.fst x.snd.snd.snd.snd.snd.fst x.snd.snd.snd.snd.snd.snd.fst 0 (↑(List.length x.snd.snd.snd.snd.snd.snd.snd.snd.fst) : Int)) fun y0 =>
    bif inRange y0.fst (List.length x.snd.snd.snd.snd.snd.snd.snd.snd.fst) then
     some ((List.getD x.snd.snd.snd.snd.snd.snd.snd.snd.fst (Int.toNat y0.fst) 0, ()))
    else
     none
 ) (100000000000000000000) (x)
def f43 (a0 : List Int) (a1 : List Int) (a2 : Int) (a3 : List Bool) (a4 : Int) (a5 : Int) (a6 : Int) : Option (Int × Unit) :=
 f43.L1 ((a0, a1, a2, a3, a4, a5, a6, 0, [], ()))
def f43.ins : Shape := ⟨[(0, .c (.row (.int .u8))), (1, .c (.row (.int .i64))), (2, .c (.int .i64)), (3, .c (.row .bool)), (4, .c (.int .i64)), (5, .c (.int .i64)), (6, .c (.int .i64))], []⟩
def f43.outs : List Shape := [⟨[(0, .c (.int .i64))], []⟩]
def f43.S : FnSpec := ⟨f43.ins, f43.outs, [], fun x => f43 x.1 x.2.1 x.2.2.1 x.2.2.2.1 x.2.2.2.2.1 x.2.2.2.2.2.1 x.2.2.2.2.2.2.1⟩
def f43.E (fuel : Nat) : Env := ⟨tis, [(39, f39.S)], [], [], [(4, ⟨[(0, .c (.row (.int .u8))), (1, .c (.row (.int .i64))), (2, .c (.int .i64)), (3, .c (.row .bool)), (4, .c (.int .i64)), (5, .c (.int .i64)), (6, .c (.int .i64)), (15, .c (.own 0)), (16, .c (.int .i64))], [(0, .arr (.int .i64))]⟩)], [], 0, [], fuel⟩
theorem f43.run : ∀ x, runFn (f43.E 100000000000000000000) Go.Proofs.Try.f43 ((Go.Proofs.Try.f43.body).getD .skip) f43.S x = f43.S.f x := by intro x; kernel_rfl
theorem f43.sound : Sound Go.Proofs.Try.prog 43 f43.S := sound_of_run (fun _ => f43.E 100000000000000000000) (by kernel_rfl) (by kernel_rfl) (by kernel_rfl) orders (fun _ => ⟨tis_ok, EqsOk.nil _, (FnsOk.cons f39.sound FnsOk.nil)⟩) (fun _ => rfl) (by kernel_rfl) (by kernel_rfl) (fun x r h => (f43.run x).trans h)
/-! f25: adit/aditref5.Stats -/
def f25 (a0 : Int) : Option (Int × Int × Int × Int × Int × Int × Int × Int × Int × Int × Int × Unit) :=
 Option.bind (α := Int × Int × Int × Int × Int × Int × Int × Int × Int × Int × Int × Int × Int × Int × Int × Unit ⊕ Int × Int × Int × Int × Int × Int × Int × Int × Int × Int × Int × Unit) (
  bif a0 == 1 then
   some (Sum.inl (a0, 20, 5, 1, 0, 0, 0, 0, 0, 0, 0, 0, 0, 0, 0, ()))
  else
   bif a0 == 2 then
    some (Sum.inl (a0, 4, 2, 0, 0, 0, 0, 0, 0, 0, 0, 0, 0, 0, 0, ()))
   else
    bif a0 == 3 then
     some (Sum.inl (a0, 9, 4, 1, 0, 0, 0, 0, 0, 0, 0, 0, 0, 0, 0, ()))
    else
     bif a0 == 4 then
      some (Sum.inl (a0, 6, 3, 0, 0, 0, 0, 0, 0, 0, 0, 0, 0, 0, 0, ()))
     else
      some (Sum.inr (0, 0, 0, 0, 0, 0, 0, 0, 0, 0, 0, ()))
 ) fun y0 =>
  Sum.elim (fun y1 =>
   some ((y1.fst, 0, 0, 0, 0, y1.snd.fst, y1.snd.fst, y1.snd.snd.fst, y1.snd.snd.snd.fst, 0, 0, ()))
  ) (fun z2 =>
   some (z2)
  ) (y0)
def f25.ins : Shape := ⟨[(0, .c (.int .i64))], []⟩
def f25.outs : List Shape := [⟨[(0, .agg [.int .i64, .int .i64, .int .i64, .int .i64, .int .i64, .int .i64, .int .i64, .int .i64, .int .i64, .int .i64, .int .i64])], []⟩]
def f25.S : FnSpec := ⟨f25.ins, f25.outs, [], fun x => f25 x.1⟩
def f25.E (fuel : Nat) : Env := ⟨tis, [], [], [(13, ⟨[(0, .c (.int .i64)), (2, .c (.ptr 0 0)), (3, .c (.int .i64)), (4, .c (.int .i64)), (5, .c (.int .i64))], [(0, .box [.int .i64, .int .i64, .int .i64, .int .i64, .int .i64, .int .i64, .int .i64, .int .i64, .int .i64, .int .i64, .int .i64])]⟩)], [], [], 0, [], fuel⟩
theorem f25.run : ∀ x, runFn (f25.E 100000000000000000000) Go.Proofs.Try.f25 ((Go.Proofs.Try.f25.body).getD .skip) f25.S x = f25.S.f x := by intro x; kernel_rfl
theorem f25.sound : Sound Go.Proofs.Try.prog 25 f25.S := sound_of_run (fun _ => f25.E 100000000000000000000) (by kernel_rfl) (by kernel_rfl) (by kernel_rfl) orders (fun _ => ⟨tis_ok, EqsOk.nil _, FnsOk.nil⟩) (fun _ => rfl) (by kernel_rfl) (by kernel_rfl) (fun x r h => (f25.run x).trans h)
/-! f23: adit/aditref4.Make -/
def f23.L1 (k0 : Int × Int × Int × Int × Int × Int × Int × Int × List Int × Int × Int × Int × Int × Int × Int × Int × Int × Int × Int × Int × Int × Unit → Option (List Int × List (Int × Int × Int × Int × Int × Int × Int × Int × Int × Int × Int) × List (Int × Int × Int × Int) × Unit)) (x : Int × Int × Int × Int × Int × Int × Int × Int × Int × List Int × Int × Int × Int × Int × Int × Int × Int × Int × Int × Int × Int × Int × Unit) : Option (List Int × List (Int × Int × Int × Int × Int × Int × Int × Int × Int × Int × Int) × List (Int × Int × Int × Int) × Unit) :=
 it (X := Int × Int × Int × Int × Int × Int × Int × Int × Int × List Int × Int × Int × Int × Int × Int × Int × Int × Int × Int × Int × Int × Int × Unit) (fun rec x =>
 bif Decidable.decide (x.snd.snd.snd.snd.snd.snd.snd.snd.fst < Go.IntKind.wrap Go.IntKind.i64 (x.snd.snd.snd.snd.snd.fst + x.snd.snd.snd.fst)) then
  bif inRange (Go.IntKind.wrap Go.IntKind.i64 (Go.IntKind.wrap Go.IntKind.i64 (x.snd.snd.snd.snd.snd.snd.snd.fst * 24) + x.snd.snd.snd.snd.snd.snd.snd.snd.fst)) (List.length x.snd.snd.snd.snd.snd.snd.snd.snd.snd.fst) then
   rec (x.fst, x.snd.fst, x.snd.snd.fst, x.snd.snd.snd.fst, x.snd.snd.snd.snd.fst, x.snd.snd.snd.snd.snd.fst, x.snd.snd.snd.snd.snd.snd.fst, x.snd.snd.snd.snd.snd.snd.snd.fst, Go.IntKind.wrap Go.IntKind.i64 (x.snd.snd.snd.snd.snd.snd.snd.snd.fst + 1), List.set x.snd.snd.snd.snd.snd.snd.snd.snd.snd.fst (Int.toNat (Go.IntKind.wrap Go.IntKind.i64 (Go.IntKind.wrap Go.IntKind.i64 (x.snd.snd.snd.snd.snd.snd.snd.fst * 24) + x.snd.snd.snd.snd.snd.snd.snd.snd.fst))) 1, x.snd.snd.snd.snd.snd.snd.snd.snd.snd.snd.fst, x.snd.snd.snd.snd.snd.snd.snd.snd.snd.snd.snd.fst, x.snd.snd.snd.snd.snd.snd.snd.snd.snd.snd.snd.snd.fst, x.snd.snd.snd.snd.snd.snd.snd.snd.snd.snd.snd.snd.snd.fst, x.snd.snd.snd.snd.snd.snd.snd.snd.snd.snd.snd.snd.snd.snd.fst, x.snd.snd.snd.snd.snd.snd.snd.snd.snd.snd.snd.snd.snd.snd.snd.fst, x.snd.snd.snd.snd.snd.snd.snd.snd.snd.snd.snd.snd.snd.snd.snd.snd.fst, x.snd.snd.snd.snd.snd.snd.snd.snd.snd.snd.snd.snd.snd.snd.snd.snd.snd.fst, x.snd.snd.snd.snd.snd.snd.snd.snd.snd.snd.snd.snd.snd.snd.snd.snd.snd.snd.fst, x.snd.snd.snd.snd.snd.snd.snd.snd.snd.snd.snd.snd.snd.snd.snd.snd.snd.snd.snd.fst, x.snd.snd.snd.snd.snd.snd.snd.snd.snd.snd.snd.snd.snd.snd.snd.snd.snd.snd.snd.snd.fst, x.snd.snd.snd.snd.snd.snd.snd.snd.snd.snd.snd.snd.snd.snd.snd.snd.snd.snd.snd.snd.snd.fst, ())
  else
   none
 else
  k0 (x.fst, x.snd.fst, x.snd.snd.fst, x.snd.snd.snd.fst, x.snd.snd.snd.snd.fst, x.snd.snd.snd.snd.snd.fst, x.snd.snd.snd.snd.snd.snd.fst, Go.IntKind.wrap Go.IntKind.i64 (x.snd.snd.snd.snd.snd.snd.snd.fst + 1), x.snd.snd.snd.snd.snd.snd.snd.snd.snd.fst, x.snd.snd.snd.snd.snd.snd.snd.snd.snd.snd.fst, x.snd.snd.snd.snd.snd.snd.snd.snd.snd.snd.snd.fst, x.snd.snd.snd.snd.snd.snd.snd.snd.snd.snd.snd.snd.fst, x.snd.snd.snd.snd.snd.snd.snd.snd.snd.snd.snd.snd.snd.fst, x.snd.snd.snd.snd.snd.snd.snd.snd.snd.snd.snd.snd.snd.snd.fst, x.snd.snd.snd.snd.snd.snd.snd.snd.snd.snd.snd.snd.snd.snd.snd.fst, x.snd.snd.snd.snd.snd.snd.snd.snd.snd.snd.snd.snd.snd.snd.snd.snd.fst, x.snd.snd.snd.snd.snd.snd.snd.snd.snd.snd.snd.snd.snd.snd.snd.snd.snd.fst, x.snd.snd.snd.snd.snd.snd.snd.snd.snd.snd.snd.snd.snd.snd.snd.snd.snd.snd.fst, x.snd.snd.snd.snd.snd.snd.snd.snd.snd.snd.snd.snd.snd.snd.snd.snd.snd.snd.snd.fst, x.snd.snd.snd.snd.snd.snd.snd.snd.snd.snd.snd.snd.snd.snd.snd.snd.snd.snd.snd.snd.fst, x.snd.snd.snd.snd.snd.snd.snd.snd.snd.snd.snd.snd.snd.snd.snd.snd.snd.snd.snd.snd.snd.fst, ())
 ) (100000000000000000000) (x)
def f23.L2 (k0 : Int × Int × Int × List Int × Int × Int × Int × Int × Int × Int × Int × Int × Int × Int × Int × Int × Unit → Option (List Int × List (Int × Int × Int × Int × Int × Int × Int × Int × Int × Int × Int) × List (Int × Int × Int × Int) × Unit)) (x : Int × Int × Int × Int × Int × Int × Int × Int × List Int × Int × Int × Int × Int × Int × Int × Int × Int × Int × Int × Int × Int × Unit) : Option (List Int × List (Int × Int × Int × Int × Int × Int × Int × Int × Int × Int × Int) × List (Int × Int × Int × Int) × Unit) :=
 it (X := Int × Int × Int × Int × Int × Int × Int × Int × List Int × Int × Int × Int × Int × Int × Int × Int × Int × Int × Int × Int × Int × Unit) (fun rec x =>
 bif Decidable.decide (x.snd.snd.snd.snd.snd.snd.snd.fst < Go.IntKind.wrap Go.IntKind.i64 (x.snd.snd.snd.snd.snd.snd.fst + x.snd.snd.snd.snd.fst)) then
  f23.L1 rec ((x.fst, x.snd.fst, x.snd.snd.fst, x.snd.snd.snd.fst, x.snd.snd.snd.snd.fst, x.snd.snd.snd.snd.snd.fst, x.snd.snd.snd.snd.snd.snd.fst, x.snd.snd.snd.snd.snd.snd.snd.fst, x.snd.snd.snd.snd.snd.fst, x.snd.snd.snd.snd.snd.snd.snd.snd.fst, x.snd.snd.snd.snd.snd.snd.snd.snd.snd.fst, x.snd.snd.snd.snd.snd.snd.snd.snd.snd.snd.fst, x.snd.snd.snd.snd.snd.snd.snd.snd.snd.snd.snd.fst, x.snd.snd.snd.snd.snd.snd.snd.snd.snd.snd.snd.snd.fst, x.snd.snd.snd.snd.snd.snd.snd.snd.snd.snd.snd.snd.snd.fst, x.snd.snd.snd.snd.snd.snd.snd.snd.snd.snd.snd.snd.snd.snd.fst, x.snd.snd.snd.snd.snd.snd.snd.snd.snd.snd.snd.snd.snd.snd.snd.fst, x.snd.snd.snd.snd.snd.snd.snd.snd.snd.snd.snd.snd.snd.snd.snd.snd.fst, x.snd.snd.snd.snd.snd.snd.snd.snd.snd.snd.snd.snd.snd.snd.snd.snd.snd.fst, x.snd.snd.snd.snd.snd.snd.snd.snd.snd.snd.snd.snd.snd.snd.snd.snd.snd.snd.fst, x.snd.snd.snd.snd.snd.snd.snd.snd.snd.snd.snd.snd.snd.snd.snd.snd.snd.snd.snd.fst, x.snd.snd.snd.snd.snd.snd.snd.snd.snd.snd.snd.snd.snd.snd.snd.snd.snd.snd.snd.snd.fst, ()))
 else
  bif inRange x.snd.snd.fst 6 then
   bif inRange x.snd.snd.fst 6 then
    k0 (x.fst, x.snd.fst, Go.IntKind.wrap Go.IntKind.i64 (x.snd.snd.fst + 1), x.snd.snd.snd.snd.snd.snd.snd.snd.fst, if Int.toNat x.snd.snd.fst = 0 / 1 then Go.IntKind.wrap Go.IntKind.i64 (x.snd.snd.snd.snd.snd.fst + Go.IntKind.wrap Go.IntKind.i64 (Int.tdiv x.snd.snd.snd.fst 2)) else x.snd.snd.snd.snd.snd.snd.snd.snd.snd.fst, if Int.toNat x.snd.snd.fst = (0 + 1) / 1 then Go.IntKind.wrap Go.IntKind.i64 (x.snd.snd.snd.snd.snd.fst + Go.IntKind.wrap Go.IntKind.i64 (Int.tdiv x.snd.snd.snd.fst 2)) else x.snd.snd.snd.snd.snd.snd.snd.snd.snd.snd.fst, if Int.toNat x.snd.snd.fst = (0 + 1 + 1) / 1 then Go.IntKind.wrap Go.IntKind.i64 (x.snd.snd.snd.snd.snd.fst + Go.IntKind.wrap Go.IntKind.i64 (Int.tdiv x.snd.snd.snd.fst 2)) else x.snd.snd.snd.snd.snd.snd.snd.snd.snd.snd.snd.fst, if Int.toNat x.snd.snd.fst = (0 + 1 + 1 + 1) / 1 then Go.IntKind.wrap Go.IntKind.i64 (x.snd.snd.snd.snd.snd.fst + Go.IntKind.wrap Go.IntKind.i64 (Int.tdiv x.snd.snd.snd.fst 2)) else x.snd.snd.snd.snd.snd.snd.snd.snd.snd.snd.snd.snd.fst, if Int.toNat x.snd.snd.fst = (0 + 1 + 1 + 1 + 1) / 1 then Go.IntKind.wrap Go.IntKind.i64 (x.snd.snd.snd.snd.snd.fst + Go.IntKind.wrap Go.IntKind.i64 (Int.tdiv x.snd.snd.snd.fst 2)) else x.snd.snd.snd.snd.snd.snd.snd.snd.snd.snd.snd.snd.snd.fst, if Int.toNat x.snd.snd.fst = (0 + 1 + 1 + 1 + 1 + 1) / 1 then Go.IntKind.wrap Go.IntKind.i64 (x.snd.snd.snd.snd.snd.fst + Go.IntKind.wrap Go.IntKind.i64 (Int.tdiv x.snd.snd.snd.fst 2)) else x.snd.snd.snd.snd.snd.snd.snd.snd.snd.snd.snd.snd.snd.snd.fst, if Int.toNat x.snd.snd.fst = 0 / 1 then Go.IntKind.wrap Go.IntKind.i64 (x.snd.snd.snd.snd.snd.snd.fst + Go.IntKind.wrap Go.IntKind.i64 (Int.tdiv x.snd.snd.snd.snd.fst 2)) else x.snd.snd.snd.snd.snd.snd.snd.snd.snd.snd.snd.snd.snd.snd.snd.fst, if Int.toNat x.snd.snd.fst = (0 + 1) / 1 then Go.IntKind.wrap Go.IntKind.i64 (x.snd.snd.snd.snd.snd.snd.fst + Go.IntKind.wrap Go.IntKind.i64 (Int.tdiv x.snd.snd.snd.snd.fst 2)) else x.snd.snd.snd.snd.snd.snd.snd.snd.snd.snd.snd.snd.snd.snd.snd.snd.fst, if Int.toNat x.snd.snd.fst = (0 + 1 + 1) / 1 then Go.IntKind.wrap Go.IntKind.i64 (x.snd.snd.snd.snd.snd.snd.fst + Go.IntKind.wrap Go.IntKind.i64 (Int.tdiv x.snd.snd.snd.snd.fst 2)) else x.snd.snd.snd.snd.snd.snd.snd.snd.snd.snd.snd.snd.snd.snd.snd.snd.snd.fst, if Int.toNat x.snd.snd.fst = (0 + 1 + 1 + 1) / 1 then Go.IntKind.wrap Go.IntKind.i64 (x.snd.snd.snd.snd.snd.snd.fst + Go.IntKind.wrap Go.IntKind.i64 (Int.tdiv x.snd.snd.snd.snd.fst 2)) else x.snd.snd.snd.snd.snd.snd.snd.snd.snd.snd.snd.snd.snd.snd.snd.snd.snd.snd.fst, if Int.toNat x.snd.snd.fst = (0 + 1 + 1 + 1 + 1) / 1 then Go.IntKind.wrap Go.IntKind.i64 (x.snd.snd.snd.snd.snd.snd.fst + Go.IntKind.wrap Go.IntKind.i64 (Int.tdiv x.snd.snd.snd.snd.fst 2)) else x.snd.snd.snd.snd.snd.snd.snd.snd.snd.snd.snd.snd.snd.snd.snd.snd.snd.snd.snd.fst, if Int.toNat x.snd.snd.fst = (0 + 1 + 1 + 1 + 1 + 1) / 1 then Go.IntKind.wrap Go.IntKind.i64 (x.snd.snd.snd.snd.snd.snd.fst + Go.IntKind.wrap Go.IntKind.i64 (Int.tdiv x.snd.snd.snd.snd.fst 2)) else x.snd.snd.snd.snd.snd.snd.snd.snd.snd.snd.snd.snd.snd.snd.snd.snd.snd.snd.snd.snd.fst, ())
   else
    none
  else
   none
 ) (100000000000000000000) (x)
def f23.L3 (k0 : Int × Int × Int × List Int × Int × Int × Int × Int × Int × Int × Int × Int × Int × Int × Int × Int × Unit → Option (List Int × List (Int × Int × Int × Int × Int × Int × Int × Int × Int × Int × Int) × List (Int × Int × Int × Int) × Unit)) (x : Int × Int × Int × Int × Int × Bool × Bool × List Int × Int × Int × Int × Int × Int × Int × Int × Int × Int × Int × Int × Int × Unit) : Option (List Int × List (Int × Int × Int × Int × Int × Int × Int × Int × Int × Int × Int) × List (Int × Int × Int × Int) × Unit) :=
 it (X := Int × Int × Int × Int × Int × Bool × Bool × List Int × Int × Int × Int × Int × Int × Int × Int × Int × Int × Int × Int × Int × Unit) (fun rec x =>
 Option.bind (α := Int × Int × Int × Int × Int × Bool × Bool × List Int × Int × Int × Int × Int × Int × Int × Int × Int × Int × Int × Int × Int × Unit ⊕ List Int × List (Int × Int × Int × Int × Int × Int × Int × Int × Int × Int × Int) × List (Int × Int × Int × Int) × Unit) (
  bif inRange x.snd.snd.fst 6 then
   bif x.snd.snd.snd.fst != List.getD [x.snd.snd.snd.snd.snd.snd.snd.snd.fst, x.snd.snd.snd.snd.snd.snd.snd.snd.snd.fst, x.snd.snd.snd.snd.snd.snd.snd.snd.snd.snd.fst, x.snd.snd.snd.snd.snd.snd.snd.snd.snd.snd.snd.fst, x.snd.snd.snd.snd.snd.snd.snd.snd.snd.snd.snd.snd.fst, x.snd.snd.snd.snd.snd.snd.snd.snd.snd.snd.snd.snd.snd.fst] (Int.toNat x.snd.snd.fst) 0 then
    some (Sum.inl (x.fst, x.snd.fst, x.snd.snd.fst, x.snd.snd.snd.fst, x.snd.snd.snd.snd.fst, x.snd.snd.snd.snd.snd.fst, x.snd.snd.snd.snd.snd.snd.fst, x.snd.snd.snd.snd.snd.snd.snd.fst, x.snd.snd.snd.snd.snd.snd.snd.snd.fst, x.snd.snd.snd.snd.snd.snd.snd.snd.snd.fst, x.snd.snd.snd.snd.snd.snd.snd.snd.snd.snd.fst, x.snd.snd.snd.snd.snd.snd.snd.snd.snd.snd.snd.fst, x.snd.snd.snd.snd.snd.snd.snd.snd.snd.snd.snd.snd.fst, x.snd.snd.snd.snd.snd.snd.snd.snd.snd.snd.snd.snd.snd.fst, x.snd.snd.snd.snd.snd.snd.snd.snd.snd.snd.snd.snd.snd.snd.fst, x.snd.snd.snd.snd.snd.snd.snd.snd.snd.snd.snd.snd.snd.snd.snd.fst, x.snd.snd.snd.snd.snd.snd.snd.snd.snd.snd.snd.snd.snd.snd.snd.snd.fst, x.snd.snd.snd.snd.snd.snd.snd.snd.snd.snd.snd.snd.snd.snd.snd.snd.snd.fst, x.snd.snd.snd.snd.snd.snd.snd.snd.snd.snd.snd.snd.snd.snd.snd.snd.snd.snd.fst, x.snd.snd.snd.snd.snd.snd.snd.snd.snd.snd.snd.snd.snd.snd.snd.snd.snd.snd.snd.fst, ()))
   else
    bif inRange x.snd.snd.fst 6 then
     bif x.snd.snd.snd.snd.fst != List.getD [x.snd.snd.snd.snd.snd.snd.snd.snd.snd.snd.snd.snd.snd.snd.fst, x.snd.snd.snd.snd.snd.snd.snd.snd.snd.snd.snd.snd.snd.snd.snd.fst, x.snd.snd.snd.snd.snd.snd.snd.snd.snd.snd.snd.snd.snd.snd.snd.snd.fst, x.snd.snd.snd.snd.snd.snd.snd.snd.snd.snd.snd.snd.snd.snd.snd.snd.snd.fst, x.snd.snd.snd.snd.snd.snd.snd.snd.snd.snd.snd.snd.snd.snd.snd.snd.snd.snd.fst, x.snd.snd.snd.snd.snd.snd.snd.snd.snd.snd.snd.snd.snd.snd.snd.snd.snd.snd.snd.fst] (Int.toNat x.snd.snd.fst) 0 then
      some (Sum.inl (x.fst, x.snd.fst, x.snd.snd.fst, x.snd.snd.snd.fst, x.snd.snd.snd.snd.fst, x.snd.snd.snd.snd.snd.fst, x.snd.snd.snd.snd.snd.snd.fst, x.snd.snd.snd.snd.snd.snd.snd.fst, x.snd.snd.snd.snd.snd.snd.snd.snd.fst, x.snd.snd.snd.snd.snd.snd.snd.snd.snd.fst, x.snd.snd.snd.snd.snd.snd.snd.snd.snd.snd.fst, x.snd.snd.snd.snd.snd.snd.snd.snd.snd.snd.snd.fst, x.snd.snd.snd.snd.snd.snd.snd.snd.snd.snd.snd.snd.fst, x.snd.snd.snd.snd.snd.snd.snd.snd.snd.snd.snd.snd.snd.fst, x.snd.snd.snd.snd.snd.snd.snd.snd.snd.snd.snd.snd.snd.snd.fst, x.snd.snd.snd.snd.snd.snd.snd.snd.snd.snd.snd.snd.snd.snd.snd.fst, x.snd.snd.snd.snd.snd.snd.snd.snd.snd.snd.snd.snd.snd.snd.snd.snd.fst, x.snd.snd.snd.snd.snd.snd.snd.snd.snd.snd.snd.snd.snd.snd.snd.snd.snd.fst, x.snd.snd.snd.snd.snd.snd.snd.snd.snd.snd.snd.snd.snd.snd.snd.snd.snd.snd.fst, x.snd.snd.snd.snd.snd.snd.snd.snd.snd.snd.snd.snd.snd.snd.snd.snd.snd.snd.snd.fst, ()))
     else
      Option.bind (k0 (x.fst, x.snd.fst, Go.IntKind.wrap Go.IntKind.i64 (x.snd.snd.fst + 1), x.snd.snd.snd.snd.snd.snd.snd.fst, x.snd.snd.snd.snd.snd.snd.snd.snd.fst, x.snd.snd.snd.snd.snd.snd.snd.snd.snd.fst, x.snd.snd.snd.snd.snd.snd.snd.snd.snd.snd.fst, x.snd.snd.snd.snd.snd.snd.snd.snd.snd.snd.snd.fst, x.snd.snd.snd.snd.snd.snd.snd.snd.snd.snd.snd.snd.fst, x.snd.snd.snd.snd.snd.snd.snd.snd.snd.snd.snd.snd.snd.fst, x.snd.snd.snd.snd.snd.snd.snd.snd.snd.snd.snd.snd.snd.snd.fst, x.snd.snd.snd.snd.snd.snd.snd.snd.snd.snd.snd.snd.snd.snd.snd.fst, x.snd.snd.snd.snd.snd.snd.snd.snd.snd.snd.snd.snd.snd.snd.snd.snd.fst, x.snd.snd.snd.snd.snd.snd.snd.snd.snd.snd.snd.snd.snd.snd.snd.snd.snd.fst, x.snd.snd.snd.snd.snd.snd.snd.snd.snd.snd.snd.snd.snd.snd.snd.snd.snd.snd.fst, x.snd.snd.snd.snd.snd.snd.snd.snd.snd.snd.snd.snd.snd.snd.snd.snd.snd.snd.snd.fst, ())) fun y0 =>
       some (Sum.inr y0)
    else
     none
  else
   none
 ) fun y1 =>
  Sum.elim (fun y2 =>
   Option.bind (α := Int × Int × Int × Int × Int × Bool × Bool × List Int × Int × Int × Int × Int × Int × Int × Int × Int × Int × Int × Int × Int × Unit ⊕ List Int × List (Int × Int × Int × Int × Int × Int × Int × Int × Int × Int × Int) × List (Int × Int × Int × Int) × Unit) (
    bif y2.snd.snd.snd.snd.snd.snd.fst then
     bif inRange y2.snd.snd.fst 6 then
      bif y2.snd.snd.snd.fst != List.getD [y2.snd.snd.snd.snd.snd.snd.snd.snd.fst, y2.snd.snd.snd.snd.snd.snd.snd.snd.snd.fst, y2.snd.snd.snd.snd.snd.snd.snd.snd.snd.snd.fst, y2.snd.snd.snd.snd.snd.snd.snd.snd.snd.snd.snd.fst, y2.snd.snd.snd.snd.snd.snd.snd.snd.snd.snd.snd.snd.fst, y2.snd.snd.snd.snd.snd.snd.snd.snd.snd.snd.snd.snd.snd.fst] (Int.toNat y2.snd.snd.fst) 0 then
       bif inRange y2.snd.snd.fst 6 then
        Option.bind (f41 y2.snd.snd.snd.fst (List.getD [y2.snd.snd.snd.snd.snd.snd.snd.snd.fst, y2.snd.snd.snd.snd.snd.snd.snd.snd.snd.fst, y2.snd.snd.snd.snd.snd.snd.snd.snd.snd.snd.fst, y2.snd.snd.snd.snd.snd.snd.snd.snd.snd.snd.snd.fst, y2.snd.snd.snd.snd.snd.snd.snd.snd.snd.snd.snd.snd.fst, y2.snd.snd.snd.snd.snd.snd.snd.snd.snd.snd.snd.snd.snd.fst] (Int.toNat y2.snd.snd.fst) 0)) fun y3 =>
         some (Sum.inl (y2.fst, y2.snd.fst, y2.snd.snd.fst, y3.fst, y2.snd.snd.snd.snd.fst, y2.snd.snd.snd.snd.snd.fst, y2.snd.snd.snd.snd.snd.snd.fst, y2.snd.snd.snd.snd.snd.snd.snd.fst, y2.snd.snd.snd.snd.snd.snd.snd.snd.fst, y2.snd.snd.snd.snd.snd.snd.snd.snd.snd.fst, y2.snd.snd.snd.snd.snd.snd.snd.snd.snd.snd.fst, y2.snd.snd.snd.snd.snd.snd.snd.snd.snd.snd.snd.fst, y2.snd.snd.snd.snd.snd.snd.snd.snd.snd.snd.snd.snd.fst, y2.snd.snd.snd.snd.snd.snd.snd.snd.snd.snd.snd.snd.snd.fst, y2.snd.snd.snd.snd.snd.snd.snd.snd.snd.snd.snd.snd.snd.snd.fst, y2.snd.snd.snd.snd.snd.snd.snd.snd.snd.snd.snd.snd.snd.snd.snd.fst, y2.snd.snd.snd.snd.snd.snd.snd.snd.snd.snd.snd.snd.snd.snd.snd.snd.fst, y2.snd.snd.snd.snd.snd.snd.snd.snd.snd.snd.snd.snd.snd.snd.snd.snd.snd.fst, y2.snd.snd.snd.snd.snd.snd.snd.snd.snd.snd.snd.snd.snd.snd.snd.snd.snd.snd.fst, y2.snd.snd.snd.snd.snd.snd.snd.snd.snd.snd.snd.snd.snd.snd.snd.snd.snd.snd.snd.fst, ()))
       else
        none
      else
       bif !y2.snd.snd.snd.snd.snd.snd.fst then
        bif inRange y2.snd.snd.fst 6 then
         bif y2.snd.snd.snd.snd.fst == List.getD [y2.snd.snd.snd.snd.snd.snd.snd.snd.snd.snd.snd.snd.snd.snd.fst, y2.snd.snd.snd.snd.snd.snd.snd.snd.snd.snd.snd.snd.snd.snd.snd.fst, y2.snd.snd.snd.snd.snd.snd.snd.snd.snd.snd.snd.snd.snd.snd.snd.snd.fst, y2.snd.snd.snd.snd.snd.snd.snd.snd.snd.snd.snd.snd.snd.snd.snd.snd.snd.fst, y2.snd.snd.snd.snd.snd.snd.snd.snd.snd.snd.snd.snd.snd.snd.snd.snd.snd.snd.fst, y2.snd.snd.snd.snd.snd.snd.snd.snd.snd.snd.snd.snd.snd.snd.snd.snd.snd.snd.snd.fst] (Int.toNat y2.snd.snd.fst) 0 then
          bif inRange y2.snd.snd.fst 6 then
           Option.bind (f41 y2.snd.snd.snd.fst (List.getD [y2.snd.snd.snd.snd.snd.snd.snd.snd.fst, y2.snd.snd.snd.snd.snd.snd.snd.snd.snd.fst, y2.snd.snd.snd.snd.snd.snd.snd.snd.snd.snd.fst, y2.snd.snd.snd.snd.snd.snd.snd.snd.snd.snd.snd.fst, y2.snd.snd.snd.snd.snd.snd.snd.snd.snd.snd.snd.snd.fst, y2.snd.snd.snd.snd.snd.snd.snd.snd.snd.snd.snd.snd.snd.fst] (Int.toNat y2.snd.snd.fst) 0)) fun y4 =>
            some (Sum.inl (y2.fst, y2.snd.fst, y2.snd.snd.fst, y4.fst, y2.snd.snd.snd.snd.fst, y2.snd.snd.snd.snd.snd.fst, y2.snd.snd.snd.snd.snd.snd.fst, y2.snd.snd.snd.snd.snd.snd.snd.fst, y2.snd.snd.snd.snd.snd.snd.snd.snd.fst, y2.snd.snd.snd.snd.snd.snd.snd.snd.snd.fst, y2.snd.snd.snd.snd.snd.snd.snd.snd.snd.snd.fst, y2.snd.snd.snd.snd.snd.snd.snd.snd.snd.snd.snd.fst, y2.snd.snd.snd.snd.snd.snd.snd.snd.snd.snd.snd.snd.fst, y2.snd.snd.snd.snd.snd.snd.snd.snd.snd.snd.snd.snd.snd.fst, y2.snd.snd.snd.snd.snd.snd.snd.snd.snd.snd.snd.snd.snd.snd.fst, y2.snd.snd.snd.snd.snd.snd.snd.snd.snd.snd.snd.snd.snd.snd.snd.fst, y2.snd.snd.snd.snd.snd.snd.snd.snd.snd.snd.snd.snd.snd.snd.snd.snd.fst, y2.snd.snd.snd.snd.snd.snd.snd.snd.snd.snd.snd.snd.snd.snd.snd.snd.snd.fst, y2.snd.snd.snd.snd.snd.snd.snd.snd.snd.snd.snd.snd.snd.snd.snd.snd.snd.snd.fst, y2.snd.snd.snd.snd.snd.snd.snd.snd.snd.snd.snd.snd.snd.snd.snd.snd.snd.snd.snd.fst, ()))
          else
           none
         else
          bif inRange y2.snd.snd.fst 6 then
           Option.bind (f41 y2.snd.snd.snd.snd.fst (List.getD [y2.snd.snd.snd.snd.snd.snd.snd.snd.snd.snd.snd.snd.snd.snd.fst, y2.snd.snd.snd.snd.snd.snd.snd.snd.snd.snd.snd.snd.snd.snd.snd.fst, y2.snd.snd.snd.snd.snd.snd.snd.snd.snd.snd.snd.snd.snd.snd.snd.snd.fst, y2.snd.snd.snd.snd.snd.snd.snd.snd.snd.snd.snd.snd.snd.snd.snd.snd.snd.fst, y2.snd.snd.snd.snd.snd.snd.snd.snd.snd.snd.snd.snd.snd.snd.snd.snd.snd.snd.fst, y2.snd.snd.snd.snd.snd.snd.snd.snd.snd.snd.snd.snd.snd.snd.snd.snd.snd.snd.snd.fst] (Int.toNat y2.snd.snd.fst) 0)) fun y5 =>
            some (Sum.inl (y2.fst, y2.snd.fst, y2.snd.snd.fst, y2.snd.snd.snd.fst, y5.fst, y2.snd.snd.snd.snd.snd.fst, y2.snd.snd.snd.snd.snd.snd.fst, y2.snd.snd.snd.snd.snd.snd.snd.fst, y2.snd.snd.snd.snd.snd.snd.snd.snd.fst, y2.snd.snd.snd.snd.snd.snd.snd.snd.snd.fst, y2.snd.snd.snd.snd.snd.snd.snd.snd.snd.snd.fst, y2.snd.snd.snd.snd.snd.snd.snd.snd.snd.snd.snd.fst, y2.snd.snd.snd.snd.snd.snd.snd.snd.snd.snd.snd.snd.fst, y2.snd.snd.snd.snd.snd.snd.snd.snd.snd.snd.snd.snd.snd.fst, y2.snd.snd.snd.snd.snd.snd.snd.snd.snd.snd.snd.snd.snd.snd.fst, y2.snd.snd.snd.snd.snd.snd.snd.snd.snd.snd.snd.snd.snd.snd.snd.fst, y2.snd.snd.snd.snd.snd.snd.snd.snd.snd.snd.snd.snd.snd.snd.snd.snd.fst, y2.snd.snd.snd.snd.snd.snd.snd.snd.snd.snd.snd.snd.snd.snd.snd.snd.snd.fst, y2.snd.snd.snd.snd.snd.snd.snd.snd.snd.snd.snd.snd.snd.snd.snd.snd.snd.snd.fst, y2.snd.snd.snd.snd.snd.snd.snd.snd.snd.snd.snd.snd.snd.snd.snd.snd.snd.snd.snd.fst, ()))
          else
           none
        else
         none
       else
        bif inRange y2.snd.snd.fst 6 then
         Option.bind (f41 y2.snd.snd.snd.snd.fst (List.getD [y2.snd.snd.snd.snd.snd.snd.snd.snd.snd.snd.snd.snd.snd.snd.fst, y2.snd.snd.snd.snd.snd.snd.snd.snd.snd.snd.snd.snd.snd.snd.snd.fst, y2.snd.snd.snd.snd.snd.snd.snd.snd.snd.snd.snd.snd.snd.snd.snd.snd.fst, y2.snd.snd.snd.snd.snd.snd.snd.snd.snd.snd.snd.snd.snd.snd.snd.snd.snd.fst, y2.snd.snd.snd.snd.snd.snd.snd.snd.snd.snd.snd.snd.snd.snd.snd.snd.snd.snd.fst, y2.snd.snd.snd.snd.snd.snd.snd.snd.snd.snd.snd.snd.snd.snd.snd.snd.snd.snd.snd.fst] (Int.toNat y2.snd.snd.fst) 0)) fun y6 =>
          some (Sum.inl (y2.fst, y2.snd.fst, y2.snd.snd.fst, y2.snd.snd.snd.fst, y6.fst, y2.snd.snd.snd.snd.snd.fst, y2.snd.snd.snd.snd.snd.snd.fst, y2.snd.snd.snd.snd.snd.snd.snd.fst, y2.snd.snd.snd.snd.snd.snd.snd.snd.fst, y2.snd.snd.snd.snd.snd.snd.snd.snd.snd.fst, y2.snd.snd.snd.snd.snd.snd.snd.snd.snd.snd.fst, y2.snd.snd.snd.snd.snd.snd.snd.snd.snd.snd.snd.fst, y2.snd.snd.snd.snd.snd.snd.snd.snd.snd.snd.snd.snd.fst, y2.snd.snd.snd.snd.snd.snd.snd.snd.snd.snd.snd.snd.snd.fst, y2.snd.snd.snd.snd.snd.snd.snd.snd.snd.snd.snd.snd.snd.snd.fst, y2.snd.snd.snd.snd.snd.snd.snd.snd.snd.snd.snd.snd.snd.snd.snd.fst, y2.snd.snd.snd.snd.snd.snd.snd.snd.snd.snd.snd.snd.snd.snd.snd.snd.fst, y2.snd.snd.snd.snd.snd.snd.snd.snd.snd.snd.snd.snd.snd.snd.snd.snd.snd.fst, y2.snd.snd.snd.snd.snd.snd.snd.snd.snd.snd.snd.snd.snd.snd.snd.snd.snd.snd.fst, y2.snd.snd.snd.snd.snd.snd.snd.snd.snd.snd.snd.snd.snd.snd.snd.snd.snd.snd.snd.fst, ()))
        else
         none
     else
      none
    else
     bif !y2.snd.snd.snd.snd.snd.snd.fst then
      bif inRange y2.snd.snd.fst 6 then
       bif y2.snd.snd.snd.snd.fst == List.getD [y2.snd.snd.snd.snd.snd.snd.snd.snd.snd.snd.snd.snd.snd.snd.fst, y2.snd.snd.snd.snd.snd.snd.snd.snd.snd.snd.snd.snd.snd.snd.snd.fst, y2.snd.snd.snd.snd.snd.snd.snd.snd.snd.snd.snd.snd.snd.snd.snd.snd.fst, y2.snd.snd.snd.snd.snd.snd.snd.snd.snd.snd.snd.snd.snd.snd.snd.snd.snd.fst, y2.snd.snd.snd.snd.snd.snd.snd.snd.snd.snd.snd.snd.snd.snd.snd.snd.snd.snd.fst, y2.snd.snd.snd.snd.snd.snd.snd.snd.snd.snd.snd.snd.snd.snd.snd.snd.snd.snd.snd.fst] (Int.toNat y2.snd.snd.fst) 0 then
        bif inRange y2.snd.snd.fst 6 then
         Option.bind (f41 y2.snd.snd.snd.fst (List.getD [y2.snd.snd.snd.snd.snd.snd.snd.snd.fst, y2.snd.snd.snd.snd.snd.snd.snd.snd.snd.fst, y2.snd.snd.snd.snd.snd.snd.snd.snd.snd.snd.fst, y2.snd.snd.snd.snd.snd.snd.snd.snd.snd.snd.snd.fst, y2.snd.snd.snd.snd.snd.snd.snd.snd.snd.snd.snd.snd.fst, y2.snd.snd.snd.snd.snd.snd.snd.snd.snd.snd.snd.snd.snd.fst] (Int.toNat y2.snd.snd.fst) 0)) fun y7 =>
          some (Sum.inl (y2.fst, y2.snd.fst, y2.snd.snd.fst, y7.fst, y2.snd.snd.snd.snd.fst, y2.snd.snd.snd.snd.snd.fst, y2.snd.snd.snd.snd.snd.snd.fst, y2.snd.snd.snd.snd.snd.snd.snd.fst, y2.snd.snd.snd.snd.snd.snd.snd.snd.fst, y2.snd.snd.snd.snd.snd.snd.snd.snd.snd.fst, y2.snd.snd.snd.snd.snd.snd.snd.snd.snd.snd.fst, y2.snd.snd.snd.snd.snd.snd.snd.snd.snd.snd.snd.fst, y2.snd.snd.snd.snd.snd.snd.snd.snd.snd.snd.snd.snd.fst, y2.snd.snd.snd.snd.snd.snd.snd.snd.snd.snd.snd.snd.snd.fst, y2.snd.snd.snd.snd.snd.snd.snd.snd.snd.snd.snd.snd.snd.snd.fst, y2.snd.snd.snd.snd.snd.snd.snd.snd.snd.snd.snd.snd.snd.snd.snd.fst, y2.snd.snd.snd.snd.snd.snd.snd.snd.snd.snd.snd.snd.snd.snd.snd.snd.fst, y2.snd.snd.snd.snd.snd.snd.snd.snd.snd.snd.snd.snd.snd.snd.snd.snd.snd.fst, y2.snd.snd.snd.snd.snd.snd.snd.snd.snd.snd.snd.snd.snd.snd.snd.snd.snd.snd.fst, y2.snd.snd.snd.snd.snd.snd.snd.snd.snd.snd.snd.snd.snd.snd.snd.snd.snd.snd.snd.fst, ()))
        else
         none
       else
        bif inRange y2.snd.snd.fst 6 then
         Option.bind (f41 y2.snd.snd.snd.snd.fst (List.getD [y2.snd.snd.snd.snd.snd.snd.snd.snd.snd.snd.snd.snd.snd.snd.fst, y2.snd.snd.snd.snd.snd.snd.snd.snd.snd.snd.snd.snd.snd.snd.snd.fst, y2.snd.snd.snd.snd.snd.snd.snd.snd.snd.snd.snd.snd.snd.snd.snd.snd.fst, y2.snd.snd.snd.snd.snd.snd.snd.snd.snd.snd.snd.snd.snd.snd.snd.snd.snd.fst, y2.snd.snd.snd.snd.snd.snd.snd.snd.snd.snd.snd.snd.snd.snd.snd.snd.snd.snd.fst, y2.snd.snd.snd.snd.snd.snd.snd.snd.snd.snd.snd.snd.snd.snd.snd.snd.snd.snd.snd.fst] (Int.toNat y2.snd.snd.fst) 0)) fun y8 =>
          some (Sum.inl (y2.fst, y2.snd.fst, y2.snd.snd.fst, y2.snd.snd.snd.fst, y8.fst, y2.snd.snd.snd.snd.snd.fst, y2.snd.snd.snd.snd.snd.snd.fst, y2.snd.snd.snd.snd.snd.snd.snd.fst, y2.snd.snd.snd.snd.snd.snd.snd.snd.fst, y2.snd.snd.snd.snd.snd.snd.snd.snd.snd.fst, y2.snd.snd.snd.snd.snd.snd.snd.snd.snd.snd.fst, y2.snd.snd.snd.snd.snd.snd.snd.snd.snd.snd.snd.fst, y2.snd.snd.snd.snd.snd.snd.snd.snd.snd.snd.snd.snd.fst, y2.snd.snd.snd.snd.snd.snd.snd.snd.snd.snd.snd.snd.snd.fst, y2.snd.snd.snd.snd.snd.snd.snd.snd.snd.snd.snd.snd.snd.snd.fst, y2.snd.snd.snd.snd.snd.snd.snd.snd.snd.snd.snd.snd.snd.snd.snd.fst, y2.snd.snd.snd.snd.snd.snd.snd.snd.snd.snd.snd.snd.snd.snd.snd.snd.fst, y2.snd.snd.snd.snd.snd.snd.snd.snd.snd.snd.snd.snd.snd.snd.snd.snd.snd.fst, y2.snd.snd.snd.snd.snd.snd.snd.snd.snd.snd.snd.snd.snd.snd.snd.snd.snd.snd.fst, y2.snd.snd.snd.snd.snd.snd.snd.snd.snd.snd.snd.snd.snd.snd.snd.snd.snd.snd.snd.fst, ()))
        else
         none
      else
       none
     else
      bif inRange y2.snd.snd.fst 6 then
       Option.bind (f41 y2.snd.snd.snd.snd.fst (List.getD [y2.snd.snd.snd.snd.snd.snd.snd.snd.snd.snd.snd.snd.snd.snd.fst, y2.snd.snd.snd.snd.snd.snd.snd.snd.snd.snd.snd.snd.snd.snd.snd.fst, y2.snd.snd.snd.snd.snd.snd.snd.snd.snd.snd.snd.snd.snd.snd.snd.snd.fst, y2.snd.snd.snd.snd.snd.snd.snd.snd.snd.snd.snd.snd.snd.snd.snd.snd.snd.fst, y2.snd.snd.snd.snd.snd.snd.snd.snd.snd.snd.snd.snd.snd.snd.snd.snd.snd.snd.fst, y2.snd.snd.snd.snd.snd.snd.snd.snd.snd.snd.snd.snd.snd.snd.snd.snd.snd.snd.snd.fst] (Int.toNat y2.snd.snd.fst) 0)) fun y9 =>
        some (Sum.inl (y2.fst, y2.snd.fst, y2.snd.snd.fst, y2.snd.snd.snd.fst, y9.fst, y2.snd.snd.snd.snd.snd.fst, y2.snd.snd.snd.snd.snd.snd.fst, y2.snd.snd.snd.snd.snd.snd.snd.fst, y2.snd.snd.snd.snd.snd.snd.snd.snd.fst, y2.snd.snd.snd.snd.snd.snd.snd.snd.snd.fst, y2.snd.snd.snd.snd.snd.snd.snd.snd.snd.snd.fst, y2.snd.snd.snd.snd.snd.snd.snd.snd.snd.snd.snd.fst, y2.snd.snd.snd.snd.snd.snd.snd.snd.snd.snd.snd.snd.fst, y2.snd.snd.snd.snd.snd.snd.snd.snd.snd.snd.snd.snd.snd.fst, y2.snd.snd.snd.snd.snd.snd.snd.snd.snd.snd.snd.snd.snd.snd.fst, y2.snd.snd.snd.snd.snd.snd.snd.snd.snd.snd.snd.snd.snd.snd.snd.fst, y2.snd.snd.snd.snd.snd.snd.snd.snd.snd.snd.snd.snd.snd.snd.snd.snd.fst, y2.snd.snd.snd.snd.snd.snd.snd.snd.snd.snd.snd.snd.snd.snd.snd.snd.snd.fst, y2.snd.snd.snd.snd.snd.snd.snd.snd.snd.snd.snd.snd.snd.snd.snd.snd.snd.snd.fst, y2.snd.snd.snd.snd.snd.snd.snd.snd.snd.snd.snd.snd.snd.snd.snd.snd.snd.snd.snd.fst, ()))
      else
       none
   ) fun y10 =>
    Sum.elim (fun y11 =>
     Option.bind (f40 y11.snd.snd.snd.fst y11.snd.snd.snd.snd.fst y11.snd.snd.snd.snd.snd.fst y11.snd.snd.snd.snd.snd.snd.snd.fst) fun y12 =>
      rec (y11.fst, y11.snd.fst, y11.snd.snd.fst, y11.snd.snd.snd.fst, y11.snd.snd.snd.snd.fst, y12.fst, y11.snd.snd.snd.snd.snd.snd.fst, y12.snd.fst, y11.snd.snd.snd.snd.snd.snd.snd.snd.fst, y11.snd.snd.snd.snd.snd.snd.snd.snd.snd.fst, y11.snd.snd.snd.snd.snd.snd.snd.snd.snd.snd.fst, y11.snd.snd.snd.snd.snd.snd.snd.snd.snd.snd.snd.fst, y11.snd.snd.snd.snd.snd.snd.snd.snd.snd.snd.snd.snd.fst, y11.snd.snd.snd.snd.snd.snd.snd.snd.snd.snd.snd.snd.snd.fst, y11.snd.snd.snd.snd.snd.snd.snd.snd.snd.snd.snd.snd.snd.snd.fst, y11.snd.snd.snd.snd.snd.snd.snd.snd.snd.snd.snd.snd.snd.snd.snd.fst, y11.snd.snd.snd.snd.snd.snd.snd.snd.snd.snd.snd.snd.snd.snd.snd.snd.fst, y11.snd.snd.snd.snd.snd.snd.snd.snd.snd.snd.snd.snd.snd.snd.snd.snd.snd.fst, y11.snd.snd.snd.snd.snd.snd.snd.snd.snd.snd.snd.snd.snd.snd.snd.snd.snd.snd.fst, y11.snd.snd.snd.snd.snd.snd.snd.snd.snd.snd.snd.snd.snd.snd.snd.snd.snd.snd.snd.fst, ())
    ) (fun z13 =>
     some (z13)
    ) (y10)
  ) (fun z14 =>
   some (z14)
  ) (y1)
 ) (100000000000000000000) (x)
def f23.L4 (x : Int × Int × Int × Bool × Int × List Int × List Int × Unit) : Option (Int × Int × Bool × List Int × List Int × Unit ⊕ List Int × List (Int × Int × Int × Int × Int × Int × Int × Int × Int × Int × Int) × List (Int × Int × Int × Int) × Unit) :=
 it (X := Int × Int × Int × Bool × Int × List Int × List Int × Unit) (fun rec x =>
 bif Decidable.decide (x.snd.snd.snd.snd.fst < 384) then
  bif !x.snd.snd.snd.fst then
   bif inRange x.snd.snd.snd.snd.fst (List.length x.snd.snd.snd.snd.snd.fst) then
    bif List.getD x.snd.snd.snd.snd.snd.fst (Int.toNat x.snd.snd.snd.snd.fst) 0 == 1 then
     bif inRange x.snd.snd.snd.snd.fst (List.length x.snd.snd.snd.snd.snd.snd.fst) then
      bif inRange x.snd.snd.fst (List.length x.snd.snd.snd.snd.snd.snd.fst) then
       bif List.getD x.snd.snd.snd.snd.snd.snd.fst (Int.toNat x.snd.snd.snd.snd.fst) 0 == Go.IntKind.wrap Go.IntKind.i64 (Int.tdiv (List.getD x.snd.snd.snd.snd.snd.snd.fst (Int.toNat x.snd.snd.fst) 0) 2) then
        bif inRange x.snd.snd.snd.snd.fst (List.length x.snd.snd.snd.snd.snd.fst) then
         rec (x.fst, x.snd.fst, x.snd.snd.fst, Bool.true, Go.IntKind.wrap Go.IntKind.i64 (x.snd.snd.snd.snd.fst + 1), List.set x.snd.snd.snd.snd.snd.fst (Int.toNat x.snd.snd.snd.snd.fst) 5, x.snd.snd.snd.snd.snd.snd.fst, ())
        else
         none
       else
        rec (x.fst, x.snd.fst, x.snd.snd.fst, x.snd.snd.snd.fst, Go.IntKind.wrap Go.IntKind.i64 (x.snd.snd.snd.snd.fst + 1), x.snd.snd.snd.snd.snd.fst, x.snd.snd.snd.snd.snd.snd.fst, ())
      else
       none
     else
      none
    else
     rec (x.fst, x.snd.fst, x.snd.snd.fst, x.snd.snd.snd.fst, Go.IntKind.wrap Go.IntKind.i64 (x.snd.snd.snd.snd.fst + 1), x.snd.snd.snd.snd.snd.fst, x.snd.snd.snd.snd.snd.snd.fst, ())
   else
    none
  else
   some (Sum.inl (x.fst, x.snd.fst, x.snd.snd.snd.fst, x.snd.snd.snd.snd.snd.fst, x.snd.snd.snd.snd.snd.snd.fst, ()))
 else
  some (Sum.inl (x.fst, x.snd.fst, x.snd.snd.snd.fst, x.snd.snd.snd.snd.snd.fst, x.snd.snd.snd.snd.snd.snd.fst, ()))
 ) (100000000000000000000) (x)
def f23.L5 (x : Int × Int × Bool × Int × List Int × List Int × List Bool × List (Int × Int × Int × Int × Int × Int × Int × Int × Int × Int × Int) × Unit) : Option (Int × Int × Bool × List Int × List Int × List (Int × Int × Int × Int × Int × Int × Int × Int × Int × Int × Int) × Unit ⊕ List Int × List (Int × Int × Int × Int × Int × Int × Int × Int × Int × Int × Int) × List (Int × Int × Int × Int) × Unit) :=
 it (X := Int × Int × Bool × Int × List Int × List Int × List Bool × List (Int × Int × Int × Int × Int × Int × Int × Int × Int × Int × Int) × Unit) (fun rec x =>
 bif Decidable.decide (x.snd.snd.snd.fst ≤ Go.IntKind.wrap Go.IntKind.i64 (x.snd.fst + 1)) then
  Option.bind (f43 x.snd.snd.snd.snd.fst x.snd.snd.snd.snd.snd.fst 4 x.snd.snd.snd.snd.snd.snd.fst x.fst x.snd.fst (Go.IntKind.wrap Go.IntKind.i64 (7 + x.snd.snd.snd.fst))) fun y0 =>
   bif Decidable.decide (y0.fst < 0) then
    some (Sum.inl (x.fst, x.snd.fst, x.snd.snd.fst, x.snd.snd.snd.snd.fst, x.snd.snd.snd.snd.snd.fst, x.snd.snd.snd.snd.snd.snd.snd.fst, ()))
   else
    bif inRange y0.fst (List.length x.snd.snd.snd.snd.snd.snd.fst) then
     Option.bind (f39 x.fst x.snd.fst (Go.IntKind.wrap Go.IntKind.i64 (16 + x.snd.snd.snd.fst)) 1 (minI (Go.IntKind.wrap Go.IntKind.i64 (x.snd.fst + 1)) 3)) fun y1 =>
      Option.bind (f25 (Go.IntKind.wrap Go.IntKind.i64 (2 + y1.fst))) fun y2 =>
       bif Decidable.decide (List.length x.snd.snd.snd.snd.snd.snd.snd.fst + 1 ≤ limit 88) then
        rec (x.fst, x.snd.fst, x.snd.snd.fst, Go.IntKind.wrap Go.IntKind.i64 (x.snd.snd.snd.fst + 1), x.snd.snd.snd.snd.fst, x.snd.snd.snd.snd.snd.fst, List.set x.snd.snd.snd.snd.snd.snd.fst (Int.toNat y0.fst) Bool.true, x.snd.snd.snd.snd.snd.snd.snd.fst ++ [(y2.fst, y2.snd.fst, y2.snd.snd.fst, Int.tmod y0.fst 24, Go.IntKind.wrap Go.IntKind.i64 (Int.tdiv y0.fst 24), y2.snd.snd.snd.snd.snd.fst, y2.snd.snd.snd.snd.snd.snd.fst, y2.snd.snd.snd.snd.snd.snd.snd.fst, y2.snd.snd.snd.snd.snd.snd.snd.snd.fst, y2.snd.snd.snd.snd.snd.snd.snd.snd.snd.fst, y2.snd.snd.snd.snd.snd.snd.snd.snd.snd.snd.fst)], ())
       else
        none
    else
     none
 else
  some (Sum.inl (x.fst, x.snd.fst, x.snd.snd.fst, x.snd.snd.snd.snd.fst, x.snd.snd.snd.snd.snd.fst, x.snd.snd.snd.snd.snd.snd.snd.fst, ()))
 ) (100000000000000000000) (x)
def f23.L6 (x : Int × Int × Bool × Int × List Int × List (Int × Int × Int × Int × Int × Int × Int × Int × Int × Int × Int) × List (Int × Int × Int × Int) × Unit) : Option (List Int × List (Int × Int × Int × Int × Int × Int × Int × Int × Int × Int × Int) × List (Int × Int × Int × Int) × Unit ⊕ List Int × List (Int × Int × Int × Int × Int × Int × Int × Int × Int × Int × Int) × List (Int × Int × Int × Int) × Unit) :=
 it (X := Int × Int × Bool × Int × List Int × List (Int × Int × Int × Int × Int × Int × Int × Int × Int × Int × Int) × List (Int × Int × Int × Int) × Unit) (fun rec x =>
 bif Decidable.decide (x.snd.snd.snd.fst < 3) then
  bif x.snd.snd.fst then
   Option.bind (f39 x.fst x.snd.fst (Go.IntKind.wrap Go.IntKind.i64 (50 + x.snd.snd.snd.fst)) 1 3) fun y0 =>
    bif Decidable.decide (List.length x.snd.snd.snd.snd.snd.snd.fst + 1 ≤ limit 32) then
     rec (x.fst, x.snd.fst, x.snd.snd.fst, Go.IntKind.wrap Go.IntKind.i64 (x.snd.snd.snd.fst + 1), x.snd.snd.snd.snd.fst, x.snd.snd.snd.snd.snd.fst, x.snd.snd.snd.snd.snd.snd.fst ++ [(Go.IntKind.wrap Go.IntKind.i64 (1 + y0.fst), 4, x.snd.snd.snd.fst, 0)], ())
    else
     none
  else
   some (Sum.inl (x.snd.snd.snd.snd.fst, x.snd.snd.snd.snd.snd.fst, x.snd.snd.snd.snd.snd.snd.fst, ()))
 else
  some (Sum.inl (x.snd.snd.snd.snd.fst, x.snd.snd.snd.snd.snd.fst, x.snd.snd.snd.snd.snd.snd.fst, ()))
 ) (100000000000000000000) (x)
def f23.L7 (x : Int × Int × Bool × Int × List Int × List Int × List Bool × List (Int × Int × Int × Int × Int × Int × Int × Int × Int × Int × Int) × List (Int × Int × Int × Int) × Unit) : Option (List Int × List (Int × Int × Int × Int × Int × Int × Int × Int × Int × Int × Int) × List (Int × Int × Int × Int) × Unit) :=
 it (X := Int × Int × Bool × Int × List Int × List Int × List Bool × List (Int × Int × Int × Int × Int × Int × Int × Int × Int × Int × Int) × List (Int × Int × Int × Int) × Unit) (fun rec x =>
 bif Decidable.decide (x.snd.snd.snd.fst < 4) then
  Option.bind (f43 x.snd.snd.snd.snd.fst x.snd.snd.snd.snd.snd.fst 0 x.snd.snd.snd.snd.snd.snd.fst x.fst x.snd.fst (Go.IntKind.wrap Go.IntKind.i64 (40 + x.snd.snd.snd.fst))) fun y0 =>
   bif Decidable.decide (y0.fst < 0) then
    rec (x.fst, x.snd.fst, x.snd.snd.fst, Go.IntKind.wrap Go.IntKind.i64 (x.snd.snd.snd.fst + 1), x.snd.snd.snd.snd.fst, x.snd.snd.snd.snd.snd.fst, x.snd.snd.snd.snd.snd.snd.fst, x.snd.snd.snd.snd.snd.snd.snd.fst, x.snd.snd.snd.snd.snd.snd.snd.snd.fst, ())
   else
    bif inRange y0.fst (List.length x.snd.snd.snd.snd.snd.snd.fst) then
     Option.bind (f39 x.fst x.snd.fst (Go.IntKind.wrap Go.IntKind.i64 (40 + x.snd.snd.snd.fst)) 1 4) fun y1 =>
      bif Decidable.decide (List.length x.snd.snd.snd.snd.snd.snd.snd.snd.fst + 1 ≤ limit 32) then
       rec (x.fst, x.snd.fst, x.snd.snd.fst, Go.IntKind.wrap Go.IntKind.i64 (x.snd.snd.snd.fst + 1), x.snd.snd.snd.snd.fst, x.snd.snd.snd.snd.snd.fst, List.set x.snd.snd.snd.snd.snd.snd.fst (Int.toNat y0.fst) Bool.true, x.snd.snd.snd.snd.snd.snd.snd.fst, x.snd.snd.snd.snd.snd.snd.snd.snd.fst ++ [(Go.IntKind.wrap Go.IntKind.i64 (1 + y1.fst), 1, Int.tmod y0.fst 24, Go.IntKind.wrap Go.IntKind.i64 (Int.tdiv y0.fst 24))], ())
      else
       none
    else
     none
 else
  Option.bind (α := List Int × List (Int × Int × Int × Int × Int × Int × Int × Int × Int × Int × Int) × List (Int × Int × Int × Int) × Unit ⊕ List Int × List (Int × Int × Int × Int × Int × Int × Int × Int × Int × Int × Int) × List (Int × Int × Int × Int) × Unit) (
   f23.L6 ((x.fst, x.snd.fst, x.snd.snd.fst, 0, x.snd.snd.snd.snd.fst, x.snd.snd.snd.snd.snd.snd.snd.fst, x.snd.snd.snd.snd.snd.snd.snd.snd.fst, ()))
  ) fun y2 =>
   Sum.elim (fun y3 =>
    some ((y3.fst, y3.snd.fst, y3.snd.snd.fst, ()))
   ) (fun z4 =>
    some (z4)
   ) (y2)
 ) (100000000000000000000) (x)
def f23.L8 (x : Int × Int × Int × Int × List Int × List Int × Unit) : Option (List Int × List (Int × Int × Int × Int × Int × Int × Int × Int × Int × Int × Int) × List (Int × Int × Int × Int) × Unit) :=
 it (X := Int × Int × Int × Int × List Int × List Int × Unit) (fun rec x =>
 bif Decidable.decide (x.snd.snd.snd.fst < 384) then
  bif inRange x.snd.snd.snd.fst (List.length x.snd.snd.snd.snd.snd.fst) then
   bif inRange x.snd.snd.fst (List.length x.snd.snd.snd.snd.snd.fst) then
    bif Decidable.decide (List.getD x.snd.snd.snd.snd.snd.fst (Int.toNat x.snd.snd.snd.fst) 0 > List.getD x.snd.snd.snd.snd.snd.fst (Int.toNat x.snd.snd.fst) 0) then
     rec (x.fst, x.snd.fst, x.snd.snd.snd.fst, Go.IntKind.wrap Go.IntKind.i64 (x.snd.snd.snd.fst + 1), x.snd.snd.snd.snd.fst, x.snd.snd.snd.snd.snd.fst, ())
    else
     rec (x.fst, x.snd.fst, x.snd.snd.fst, Go.IntKind.wrap Go.IntKind.i64 (x.snd.snd.snd.fst + 1), x.snd.snd.snd.snd.fst, x.snd.snd.snd.snd.snd.fst, ())
   else
    none
  else
   none
 else
  bif inRange x.snd.snd.fst (List.length x.snd.snd.snd.snd.fst) then
   Option.bind (α := Int × Int × Bool × List Int × List Int × Unit ⊕ List Int × List (Int × Int × Int × Int × Int × Int × Int × Int × Int × Int × Int) × List (Int × Int × Int × Int) × Unit) (
    Option.bind (f39 x.fst x.snd.fst 6 0 2) fun y0 =>
     bif y0.fst == 0 then
      f23.L4 ((x.fst, x.snd.fst, x.snd.snd.fst, Bool.false, 0, List.set x.snd.snd.snd.snd.fst (Int.toNat x.snd.snd.fst) 4, x.snd.snd.snd.snd.snd.fst, ()))
     else
      some (Sum.inl (x.fst, x.snd.fst, Bool.false, List.set x.snd.snd.snd.snd.fst (Int.toNat x.snd.snd.fst) 4, x.snd.snd.snd.snd.snd.fst, ()))
   ) fun y1 =>
    Sum.elim (fun y2 =>
     Option.bind (α := Int × Int × Bool × List Int × List Int × List (Int × Int × Int × Int × Int × Int × Int × Int × Int × Int × Int) × Unit ⊕ List Int × List (Int × Int × Int × Int × Int × Int × Int × Int × Int × Int × Int) × List (Int × Int × Int × Int) × Unit) (
      f23.L5 ((y2.fst, y2.snd.fst, y2.snd.snd.fst, 0, y2.snd.snd.snd.fst, y2.snd.snd.snd.snd.fst, List.replicate 384 Bool.false, [], ()))
     ) fun y3 =>
      Sum.elim (fun y4 =>
       f23.L7 ((y4.fst, y4.snd.fst, y4.snd.snd.fst, 0, y4.snd.snd.snd.fst, y4.snd.snd.snd.snd.fst, List.replicate 384 Bool.false, y4.snd.snd.snd.snd.snd.fst, [], ()))
      ) (fun z5 =>
       some (z5)
      ) (y3)
    ) (fun z6 =>
     some (z6)
    ) (y1)
  else
   none
 ) (100000000000000000000) (x)
def f23.L9 (x : Int × Int × Int × List Int × Int × Int × Int × Int × Int × Int × Int × Int × Int × Int × Int × Int × Unit) : Option (List Int × List (Int × Int × Int × Int × Int × Int × Int × Int × Int × Int × Int) × List (Int × Int × Int × Int) × Unit) :=
 it (X := Int × Int × Int × List Int × Int × Int × Int × Int × Int × Int × Int × Int × Int × Int × Int × Int × Unit) (fun rec x =>
 bif Decidable.decide (x.snd.snd.fst < 6) then
  bif inRange (Go.IntKind.wrap Go.IntKind.i64 (x.snd.snd.fst - 1)) 6 then
   bif inRange (Go.IntKind.wrap Go.IntKind.i64 (x.snd.snd.fst - 1)) 6 then
    Option.bind (f40 (List.getD [x.snd.snd.snd.snd.fst, x.snd.snd.snd.snd.snd.fst, x.snd.snd.snd.snd.snd.snd.fst, x.snd.snd.snd.snd.snd.snd.snd.fst, x.snd.snd.snd.snd.snd.snd.snd.snd.fst, x.snd.snd.snd.snd.snd.snd.snd.snd.snd.fst] (Int.toNat (Go.IntKind.wrap Go.IntKind.i64 (x.snd.snd.fst - 1))) 0) (List.getD [x.snd.snd.snd.snd.snd.snd.snd.snd.snd.snd.fst, x.snd.snd.snd.snd.snd.snd.snd.snd.snd.snd.snd.fst, x.snd.snd.snd.snd.snd.snd.snd.snd.snd.snd.snd.snd.fst, x.snd.snd.snd.snd.snd.snd.snd.snd.snd.snd.snd.snd.snd.fst, x.snd.snd.snd.snd.snd.snd.snd.snd.snd.snd.snd.snd.snd.snd.fst, x.snd.snd.snd.snd.snd.snd.snd.snd.snd.snd.snd.snd.snd.snd.snd.fst] (Int.toNat (Go.IntKind.wrap Go.IntKind.i64 (x.snd.snd.fst - 1))) 0) Bool.false x.snd.snd.snd.fst) fun y0 =>
     Option.bind (f39 x.fst x.snd.fst x.snd.snd.fst 4 2) fun y1 =>
      f23.L3 rec ((x.fst, x.snd.fst, x.snd.snd.fst, List.getD [x.snd.snd.snd.snd.fst, x.snd.snd.snd.snd.snd.fst, x.snd.snd.snd.snd.snd.snd.fst, x.snd.snd.snd.snd.snd.snd.snd.fst, x.snd.snd.snd.snd.snd.snd.snd.snd.fst, x.snd.snd.snd.snd.snd.snd.snd.snd.snd.fst] (Int.toNat (Go.IntKind.wrap Go.IntKind.i64 (x.snd.snd.fst - 1))) 0, List.getD [x.snd.snd.snd.snd.snd.snd.snd.snd.snd.snd.fst, x.snd.snd.snd.snd.snd.snd.snd.snd.snd.snd.snd.fst, x.snd.snd.snd.snd.snd.snd.snd.snd.snd.snd.snd.snd.fst, x.snd.snd.snd.snd.snd.snd.snd.snd.snd.snd.snd.snd.snd.fst, x.snd.snd.snd.snd.snd.snd.snd.snd.snd.snd.snd.snd.snd.snd.fst, x.snd.snd.snd.snd.snd.snd.snd.snd.snd.snd.snd.snd.snd.snd.snd.fst] (Int.toNat (Go.IntKind.wrap Go.IntKind.i64 (x.snd.snd.fst - 1))) 0, y0.fst, y1.fst == 0, y0.snd.fst, x.snd.snd.snd.snd.fst, x.snd.snd.snd.snd.snd.fst, x.snd.snd.snd.snd.snd.snd.fst, x.snd.snd.snd.snd.snd.snd.snd.fst, x.snd.snd.snd.snd.snd.snd.snd.snd.fst, x.snd.snd.snd.snd.snd.snd.snd.snd.snd.fst, x.snd.snd.snd.snd.snd.snd.snd.snd.snd.snd.fst, x.snd.snd.snd.snd.snd.snd.snd.snd.snd.snd.snd.fst, x.snd.snd.snd.snd.snd.snd.snd.snd.snd.snd.snd.snd.fst, x.snd.snd.snd.snd.snd.snd.snd.snd.snd.snd.snd.snd.snd.fst, x.snd.snd.snd.snd.snd.snd.snd.snd.snd.snd.snd.snd.snd.snd.fst, x.snd.snd.snd.snd.snd.snd.snd.snd.snd.snd.snd.snd.snd.snd.snd.fst, ()))
   else
    none
  else
   none
 else
  bif inRange (Go.IntKind.wrap Go.IntKind.i64 (Go.IntKind.wrap Go.IntKind.i64 (x.snd.snd.snd.snd.snd.snd.snd.snd.snd.snd.fst * 24) + x.snd.snd.snd.snd.fst)) (List.length x.snd.snd.snd.fst) then
   Option.bind (f42 (List.set x.snd.snd.snd.fst (Int.toNat (Go.IntKind.wrap Go.IntKind.i64 (Go.IntKind.wrap Go.IntKind.i64 (x.snd.snd.snd.snd.snd.snd.snd.snd.snd.snd.fst * 24) + x.snd.snd.snd.snd.fst))) 3) [] [Go.IntKind.wrap Go.IntKind.i64 (Go.IntKind.wrap Go.IntKind.i64 (x.snd.snd.snd.snd.snd.snd.snd.snd.snd.snd.fst * 24) + x.snd.snd.snd.snd.fst)]) fun y2 =>
    f23.L8 ((x.fst, x.snd.fst, Go.IntKind.wrap Go.IntKind.i64 (Go.IntKind.wrap Go.IntKind.i64 (x.snd.snd.snd.snd.snd.snd.snd.snd.snd.snd.fst * 24) + x.snd.snd.snd.snd.fst), 0, List.set x.snd.snd.snd.fst (Int.toNat (Go.IntKind.wrap Go.IntKind.i64 (Go.IntKind.wrap Go.IntKind.i64 (x.snd.snd.snd.snd.snd.snd.snd.snd.snd.snd.fst * 24) + x.snd.snd.snd.snd.fst))) 3, y2.fst, ()))
  else
   none
 ) (100000000000000000000) (x)
def f23.L10 (x : Int × Int × Int × List Int × Int × Int × Int × Int × Int × Int × Int × Int × Int × Int × Int × Int × Unit) : Option (List Int × List (Int × Int × Int × Int × Int × Int × Int × Int × Int × Int × Int) × List (Int × Int × Int × Int) × Unit) :=
 it (X := Int × Int × Int × List Int × Int × Int × Int × Int × Int × Int × Int × Int × Int × Int × Int × Int × Unit) (fun rec x =>
 bif Decidable.decide (x.snd.snd.fst < 6) then
  Option.bind (f39 x.fst x.snd.fst x.snd.snd.fst 0 5) fun y0 =>
   Option.bind (f39 x.fst x.snd.fst x.snd.snd.fst 1 4) fun y1 =>
    Option.bind (f39 x.fst x.snd.fst x.snd.snd.fst 2 (Go.IntKind.wrap Go.IntKind.i64 (23 - Go.IntKind.wrap Go.IntKind.i64 (3 + y0.fst)))) fun y2 =>
     Option.bind (f39 x.fst x.snd.fst x.snd.snd.fst 3 (Go.IntKind.wrap Go.IntKind.i64 (15 - Go.IntKind.wrap Go.IntKind.i64 (2 + y1.fst)))) fun y3 =>
      f23.L2 rec ((x.fst, x.snd.fst, x.snd.snd.fst, Go.IntKind.wrap Go.IntKind.i64 (3 + y0.fst), Go.IntKind.wrap Go.IntKind.i64 (2 + y1.fst), Go.IntKind.wrap Go.IntKind.i64 (1 + y2.fst), Go.IntKind.wrap Go.IntKind.i64 (1 + y3.fst), Go.IntKind.wrap Go.IntKind.i64 (1 + y3.fst), x.snd.snd.snd.fst, x.snd.snd.snd.snd.fst, x.snd.snd.snd.snd.snd.fst, x.snd.snd.snd.snd.snd.snd.fst, x.snd.snd.snd.snd.snd.snd.snd.fst, x.snd.snd.snd.snd.snd.snd.snd.snd.fst, x.snd.snd.snd.snd.snd.snd.snd.snd.snd.fst, x.snd.snd.snd.snd.snd.snd.snd.snd.snd.snd.fst, x.snd.snd.snd.snd.snd.snd.snd.snd.snd.snd.snd.fst, x.snd.snd.snd.snd.snd.snd.snd.snd.snd.snd.snd.snd.fst, x.snd.snd.snd.snd.snd.snd.snd.snd.snd.snd.snd.snd.snd.fst, x.snd.snd.snd.snd.snd.snd.snd.snd.snd.snd.snd.snd.snd.snd.fst, x.snd.snd.snd.snd.snd.snd.snd.snd.snd.snd.snd.snd.snd.snd.snd.fst, ()))
 else
  f23.L9 ((x.fst, x.snd.fst, 1, x.snd.snd.snd.fst, x.snd.snd.snd.snd.fst, x.snd.snd.snd.snd.snd.fst, x.snd.snd.snd.snd.snd.snd.fst, x.snd.snd.snd.snd.snd.snd.snd.fst, x.snd.snd.snd.snd.snd.snd.snd.snd.fst, x.snd.snd.snd.snd.snd.snd.snd.snd.snd.fst, x.snd.snd.snd.snd.snd.snd.snd.snd.snd.snd.fst, x.snd.snd.snd.snd.snd.snd.snd.snd.snd.snd.snd.fst, x.snd.snd.snd.snd.snd.snd.snd.snd.snd.snd.snd.snd.fst, x.snd.snd.snd.snd.snd.snd.snd.snd.snd.snd.snd.snd.snd.fst, x.snd.snd.snd.snd.snd.snd.snd.snd.snd.snd.snd.snd.snd.snd.fst, x.snd.snd.snd.snd.snd.snd.snd.snd.snd.snd.snd.snd.snd.snd.snd.fst, ()))
 ) (100000000000000000000) (x)
def f23 (a0 : Int) (a1 : Int) : Option (List Int × List (Int × Int × Int × Int × Int × Int × Int × Int × Int × Int × Int) × List (Int × Int × Int × Int) × Unit) :=
 f23.L10 ((a0, a1, 0, List.replicate 384 0, 0, 0, 0, 0, 0, 0, 0, 0, 0, 0, 0, 0, ()))
def f23.ins : Shape := ⟨[(0, .c (.int .i64)), (1, .c (.int .i64))], []⟩
def f23.outs : List Shape := [⟨[(0, .agg [.own 0, .own 1, .own 2])], [(0, .arr (.int .u8)), (1, .arr (.prod (.int .i64) (.prod (.int .i64) (.prod (.int .i64) (.prod (.int .i64) (.prod (.int .i64) (.prod (.int .i64) (.prod (.int .i64) (.prod (.int .i64) (.prod (.int .i64) (.prod (.int .i64) (.int .i64)))))))))))), (2, .arr (.prod (.int .i64) (.prod (.int .i64) (.prod (.int .i64) (.int .i64)))))]⟩]
def f23.S : FnSpec := ⟨f23.ins, f23.outs, [], fun x => f23 x.1 x.2.1⟩
def f23.E (fuel : Nat) : Env := ⟨tis, [(39, f39.S), (40, f40.S), (41, f41.S), (42, f42.S), (43, f43.S), (25, f25.S)], [], [(24, ⟨[(0, .c (.int .i64)), (1, .c (.int .i64)), (4, .c (.ptr 0 0)), (5, .c (.own 1)), (6, .c (.ptr 2 0)), (7, .c (.ptr 3 0)), (15, .c (.int .i64)), (16, .c (.int .i64)), (17, .c (.int .i64)), (18, .c (.bool)), (19, .c (.bool))], [(0, .box [.nils, .nils, .nils]), (1, .arr (.int .u8)), (2, .box [.int .i64, .int .i64, .int .i64, .int .i64, .int .i64, .int .i64]), (3, .box [.int .i64, .int .i64, .int .i64, .int .i64, .int .i64, .int .i64])]⟩), (27, ⟨[(0, .c (.int .i64)), (1, .c (.int .i64)), (4, .c (.ptr 0 0)), (5, .c (.own 1)), (6, .c (.ptr 2 0)), (7, .c (.ptr 3 0)), (15, .c (.int .i64)), (16, .c (.int .i64)), (17, .c (.int .i64)), (18, .c (.bool)), (19, .c (.bool))], [(0, .box [.nils, .nils, .nils]), (1, .arr (.int .u8)), (2, .box [.int .i64, .int .i64, .int .i64, .int .i64, .int .i64, .int .i64]), (3, .box [.int .i64, .int .i64, .int .i64, .int .i64, .int .i64, .int .i64])]⟩), (46, ⟨[(0, .c (.int .i64)), (1, .c (.int .i64)), (4, .c (.ptr 0 0)), (5, .c (.own 1)), (21, .c (.own 2)), (24, .c (.bool))], [(0, .box [.nils, .nils, .nils]), (1, .arr (.int .u8)), (2, .arr (.int .i64))]⟩), (57, ⟨[(0, .c (.int .i64)), (1, .c (.int .i64)), (4, .c (.ptr 0 0)), (5, .c (.own 1)), (21, .c (.own 2)), (24, .c (.bool)), (26, .c (.ptr 3 0))], [(0, .box [.nils, .nils, .nils]), (1, .arr (.int .u8)), (2, .arr (.int .i64)), (3, .box [.own 1, .own 4, .nils]), (4, .arr (.prod (.int .i64) (.prod (.int .i64) (.prod (.int .i64) (.prod (.int .i64) (.prod (.int .i64) (.prod (.int .i64) (.prod (.int .i64) (.prod (.int .i64) (.prod (.int .i64) (.prod (.int .i64) (.int .i64))))))))))))]⟩), (69, ⟨[(4, .c (.ptr 0 0)), (26, .c (.ptr 1 0))], [(0, .box [.nils, .nils, .nils]), (1, .box [.own 2, .own 3, .own 4]), (2, .arr (.int .u8)), (3, .arr (.prod (.int .i64) (.prod (.int .i64) (.prod (.int .i64) (.prod (.int .i64) (.prod (.int .i64) (.prod (.int .i64) (.prod (.int .i64) (.prod (.int .i64) (.prod (.int .i64) (.prod (.int .i64) (.int .i64)))))))))))), (4, .arr (.prod (.int .i64) (.prod (.int .i64) (.prod (.int .i64) (.int .i64)))))]⟩)], [(5, ⟨[(0, .c (.int .i64)), (1, .c (.int .i64)), (4, .c (.ptr 0 0)), (5, .c (.own 1)), (6, .c (.ptr 2 0)), (7, .c (.ptr 3 0)), (8, .c (.int .i64))], [(0, .box [.nils, .nils, .nils]), (1, .arr (.int .u8)), (2, .box [.int .i64, .int .i64, .int .i64, .int .i64, .int .i64, .int .i64]), (3, .box [.int .i64, .int .i64, .int .i64, .int .i64, .int .i64, .int .i64])]⟩), (10, ⟨[(0, .c (.int .i64)), (1, .c (.int .i64)), (4, .c (.ptr 0 0)), (5, .c (.own 1)), (6, .c (.ptr 2 0)), (7, .c (.ptr 3 0)), (8, .c (.int .i64)), (9, .c (.int .i64)), (10, .c (.int .i64)), (11, .c (.int .i64)), (12, .c (.int .i64)), (13, .c (.int .i64))], [(0, .box [.nils, .nils, .nils]), (1, .arr (.int .u8)), (2, .box [.int .i64, .int .i64, .int .i64, .int .i64, .int .i64, .int .i64]), (3, .box [.int .i64, .int .i64, .int .i64, .int .i64, .int .i64, .int .i64])]⟩), (13, ⟨[(0, .c (.int .i64)), (1, .c (.int .i64)), (4, .c (.ptr 0 0)), (5, .c (.own 1)), (6, .c (.ptr 2 0)), (7, .c (.ptr 3 0)), (8, .c (.int .i64)), (9, .c (.int .i64)), (10, .c (.int .i64)), (11, .c (.int .i64)), (12, .c (.int .i64)), (13, .c (.int .i64)), (14, .c (.int .i64))], [(0, .box [.nils, .nils, .nils]), (1, .arr (.int .u8)), (2, .box [.int .i64, .int .i64, .int .i64, .int .i64, .int .i64, .int .i64]), (3, .box [.int .i64, .int .i64, .int .i64, .int .i64, .int .i64, .int .i64])]⟩), (18, ⟨[(0, .c (.int .i64)), (1, .c (.int .i64)), (4, .c (.ptr 0 0)), (5, .c (.own 1)), (6, .c (.ptr 2 0)), (7, .c (.ptr 3 0)), (15, .c (.int .i64))], [(0, .box [.nils, .nils, .nils]), (1, .arr (.int .u8)), (2, .box [.int .i64, .int .i64, .int .i64, .int .i64, .int .i64, .int .i64]), (3, .box [.int .i64, .int .i64, .int .i64, .int .i64, .int .i64, .int .i64])]⟩), (23, ⟨[(0, .c (.int .i64)), (1, .c (.int .i64)), (4, .c (.ptr 0 0)), (5, .c (.own 1)), (6, .c (.ptr 2 0)), (7, .c (.ptr 3 0)), (15, .c (.int .i64)), (16, .c (.int .i64)), (17, .c (.int .i64)), (18, .c (.bool)), (19, .c (.bool))], [(0, .box [.nils, .nils, .nils]), (1, .arr (.int .u8)), (2, .box [.int .i64, .int .i64, .int .i64, .int .i64, .int .i64, .int .i64]), (3, .box [.int .i64, .int .i64, .int .i64, .int .i64, .int .i64, .int .i64])]⟩), (33, ⟨[(0, .c (.int .i64)), (1, .c (.int .i64)), (4, .c (.ptr 0 0)), (5, .c (.own 1)), (21, .c (.own 2)), (22, .c (.int .i64)), (23, .c (.int .i64))], [(0, .box [.nils, .nils, .nils]), (1, .arr (.int .u8)), (2, .arr (.int .i64))]⟩), (41, ⟨[(0, .c (.int .i64)), (1, .c (.int .i64)), (4, .c (.ptr 0 0)), (5, .c (.own 1)), (21, .c (.own 2)), (22, .c (.int .i64)), (24, .c (.bool)), (25, .c (.int .i64))], [(0, .box [.nils, .nils, .nils]), (1, .arr (.int .u8)), (2, .arr (.int .i64))]⟩), (49, ⟨[(0, .c (.int .i64)), (1, .c (.int .i64)), (4, .c (.ptr 0 0)), (5, .c (.own 1)), (21, .c (.own 2)), (24, .c (.bool)), (26, .c (.ptr 3 0)), (27, .c (.own 4)), (28, .c (.int .i64))], [(0, .box [.nils, .nils, .nils]), (1, .arr (.int .u8)), (2, .arr (.int .i64)), (3, .box [.own 1, .own 5, .nils]), (4, .arr .bool), (5, .arr (.prod (.int .i64) (.prod (.int .i64) (.prod (.int .i64) (.prod (.int .i64) (.prod (.int .i64) (.prod (.int .i64) (.prod (.int .i64) (.prod (.int .i64) (.prod (.int .i64) (.prod (.int .i64) (.int .i64))))))))))))]⟩), (59, ⟨[(0, .c (.int .i64)), (1, .c (.int .i64)), (4, .c (.ptr 0 0)), (5, .c (.own 1)), (21, .c (.own 2)), (24, .c (.bool)), (26, .c (.ptr 3 0)), (27, .c (.own 4)), (31, .c (.int .i64))], [(0, .box [.nils, .nils, .nils]), (1, .arr (.int .u8)), (2, .arr (.int .i64)), (3, .box [.own 1, .own 5, .own 6]), (4, .arr .bool), (5, .arr (.prod (.int .i64) (.prod (.int .i64) (.prod (.int .i64) (.prod (.int .i64) (.prod (.int .i64) (.prod (.int .i64) (.prod (.int .i64) (.prod (.int .i64) (.prod (.int .i64) (.prod (.int .i64) (.int .i64)))))))))))), (6, .arr (.prod (.int .i64) (.prod (.int .i64) (.prod (.int .i64) (.int .i64)))))]⟩), (66, ⟨[(0, .c (.int .i64)), (1, .c (.int .i64)), (4, .c (.ptr 0 0)), (24, .c (.bool)), (26, .c (.ptr 1 0)), (33, .c (.int .i64))], [(0, .box [.nils, .nils, .nils]), (1, .box [.own 2, .own 3, .own 4]), (2, .arr (.int .u8)), (3, .arr (.prod (.int .i64) (.prod (.int .i64) (.prod (.int .i64) (.prod (.int .i64) (.prod (.int .i64) (.prod (.int .i64) (.prod (.int .i64) (.prod (.int .i64) (.prod (.int .i64) (.prod (.int .i64) (.int .i64)))))))))))), (4, .arr (.prod (.int .i64) (.prod (.int .i64) (.prod (.int .i64) (.int .i64)))))]⟩)], [], 0, [], fuel⟩
theorem f23.run : ∀ x, runFn (f23.E 100000000000000000000) Go.Proofs.Try.f23 ((Go.Proofs.Try.f23.body).getD .skip) f23.S x = f23.S.f x := by intro x; kernel_rfl
theorem f23.sound : Sound Go.Proofs.Try.prog 23 f23.S := sound_of_run (fun _ => f23.E 100000000000000000000) (by kernel_rfl) (by kernel_rfl) (by kernel_rfl) orders (fun _ => ⟨tis_ok, EqsOk.nil _, (FnsOk.cons f39.sound (FnsOk.cons f40.sound (FnsOk.cons f41.sound (FnsOk.cons f42.sound (FnsOk.cons f43.sound (FnsOk.cons f25.sound FnsOk.nil))))))⟩) (fun _ => rfl) (by kernel_rfl) (by kernel_rfl) (fun x r h => (f23.run x).trans h)
/-! f17: adit/aditref3.Find -/
def f17.L1 (x : List Int × Int × Int × Unit) : Option (Int × Unit) :=
 it (X := List Int × Int × Int × Unit) (fun rec x =>
 bif Decidable.decide (x.snd.snd.fst < (↑(List.length x.fst) : Int)) then
  bif Decidable.decide (x.snd.snd.fst < 384) then
   bif inRange x.snd.snd.fst (List.length x.fst) then
    bif Go.IntKind.wrap Go.IntKind.i64 (List.getD x.fst (Int.toNat x.snd.snd.fst) 0) == x.snd.fst then
     some ((x.snd.snd.fst, ()))
    else
     rec (x.fst, x.snd.fst, Go.IntKind.wrap Go.IntKind.i64 (x.snd.snd.fst + 1), ())
   else
    none
  else
   some ((-1, ()))
 else
  some ((-1, ()))
 ) (100000000000000000000) (x)
def f17 (a0 : List Int) (a1 : Int) : Option (Int × Unit) :=
 f17.L1 ((a0, a1, 0, ()))
def f17.ins : Shape := ⟨[(0, .c (.row (.int .u8))), (1, .c (.int .i64))], []⟩
def f17.outs : List Shape := [⟨[(0, .c (.int .i64))], []⟩]
def f17.S : FnSpec := ⟨f17.ins, f17.outs, [], fun x => f17 x.1 x.2.1⟩
def f17.E (fuel : Nat) : Env := ⟨tis, [], [], [], [(3, ⟨[(0, .c (.row (.int .u8))), (1, .c (.int .i64)), (5, .c (.int .i64))], []⟩)], [], 0, [], fuel⟩
theorem f17.run : ∀ x, runFn (f17.E 100000000000000000000) Go.Proofs.Try.f17 ((Go.Proofs.Try.f17.body).getD .skip) f17.S x = f17.S.f x := by intro x; kernel_rfl
theorem f17.sound : Sound Go.Proofs.Try.prog 17 f17.S := sound_of_run (fun _ => f17.E 100000000000000000000) (by kernel_rfl) (by kernel_rfl) (by kernel_rfl) orders (fun _ => ⟨tis_ok, EqsOk.nil _, FnsOk.nil⟩) (fun _ => rfl) (by kernel_rfl) (by kernel_rfl) (fun x r h => (f17.run x).trans h)
/-! f26: adit/aditref7.In -/
def f26.L1 (x : List (Int × Int × Int × Int) × Int × Int × Int × Int × Unit) : Option (Int × Unit) :=
 it (X := List (Int × Int × Int × Int) × Int × Int × Int × Int × Unit) (fun rec x =>
 bif Decidable.decide (x.snd.snd.snd.snd.fst < (↑(List.length x.fst) : Int)) then
  bif inRange x.snd.snd.snd.snd.fst (List.length x.fst) then
   bif (List.getD x.fst (Int.toNat x.snd.snd.snd.snd.fst) (0, 0, 0, 0)).snd.fst == x.snd.fst then
    bif inRange x.snd.snd.snd.snd.fst (List.length x.fst) then
     bif (List.getD x.fst (Int.toNat x.snd.snd.snd.snd.fst) (0, 0, 0, 0)).snd.snd.fst == x.snd.snd.fst then
      bif inRange x.snd.snd.snd.snd.fst (List.length x.fst) then
       bif (List.getD x.fst (Int.toNat x.snd.snd.snd.snd.fst) (0, 0, 0, 0)).snd.snd.snd == x.snd.snd.snd.fst then
        some ((x.snd.snd.snd.snd.fst, ()))
       else
        rec (x.fst, x.snd.fst, x.snd.snd.fst, x.snd.snd.snd.fst, Go.IntKind.wrap Go.IntKind.i64 (x.snd.snd.snd.snd.fst + 1), ())
      else
       none
     else
      rec (x.fst, x.snd.fst, x.snd.snd.fst, x.snd.snd.snd.fst, Go.IntKind.wrap Go.IntKind.i64 (x.snd.snd.snd.snd.fst + 1), ())
    else
     none
   else
    rec (x.fst, x.snd.fst, x.snd.snd.fst, x.snd.snd.snd.fst, Go.IntKind.wrap Go.IntKind.i64 (x.snd.snd.snd.snd.fst + 1), ())
  else
   none
 else
  some ((-1, ()))
 ) (100000000000000000000) (x)
def f26 (a0 : List (Int × Int × Int × Int)) (a1 : Int) (a2 : Int) (a3 : Int) : Option (Int × Unit) :=
 f26.L1 ((a0, a1, a2, a3, 0, ()))
def f26.ins : Shape := ⟨[(0, .c (.row (.prod (.int .i64) (.prod (.int .i64) (.prod (.int .i64) (.int .i64)))))), (1, .c (.int .i64)), (2, .c (.int .i64)), (3, .c (.int .i64))], []⟩
def f26.outs : List Shape := [⟨[(0, .c (.int .i64))], []⟩]
def f26.S : FnSpec := ⟨f26.ins, f26.outs, [], fun x => f26 x.1 x.2.1 x.2.2.1 x.2.2.2.1⟩
def f26.E (fuel : Nat) : Env := ⟨tis, [], [], [], [(3, ⟨[(0, .c (.row (.prod (.int .i64) (.prod (.int .i64) (.prod (.int .i64) (.int .i64)))))), (1, .c (.int .i64)), (2, .c (.int .i64)), (3, .c (.int .i64)), (9, .c (.int .i64))], []⟩)], [], 0, [], fuel⟩
theorem f26.run : ∀ x, runFn (f26.E 100000000000000000000) Go.Proofs.Try.f26 ((Go.Proofs.Try.f26.body).getD .skip) f26.S x = f26.S.f x := by intro x; kernel_rfl
theorem f26.sound : Sound Go.Proofs.Try.prog 26 f26.S := sound_of_run (fun _ => f26.E 100000000000000000000) (by kernel_rfl) (by kernel_rfl) (by kernel_rfl) orders (fun _ => ⟨tis_ok, EqsOk.nil _, FnsOk.nil⟩) (fun _ => rfl) (by kernel_rfl) (by kernel_rfl) (fun x r h => (f26.run x).trans h)
/-! f11: adit/aditlaw7.World -/
def f11.L1 (x : Int × List (Int × Int × Int × Int) × Int × Int × Int × Int × Int × Int × Int × Int × Int × Int × Int × Int × Int × Int × Int × Int × Int × Int × List Int × List Int × List (Int × Int × Int × Int × Int × Int × Int × Int × Int × Int × Int) × List (Int × Int × Int × Int) × Unit) : Option (Int × Int × Int × Int × Int × Int × Int × Int × Int × Int × Int × Int × Int × Int × Int × Int × List Int × List (Int × Int × Int × Int × Int × Int × Int × Int × Int × Int × Int) × List (Int × Int × Int × Int) × Unit ⊕ Int × Int × Int × Int × Int × Int × Int × Int × List Int × List (Int × Int × Int × Int × Int × Int × Int × Int × Int × Int × Int) × List (Int × Int × Int × Int) × Unit) :=
 it (X := Int × List (Int × Int × Int × Int) × Int × Int × Int × Int × Int × Int × Int × Int × Int × Int × Int × Int × Int × Int × Int × Int × Int × Int × List Int × List Int × List (Int × Int × Int × Int × Int × Int × Int × Int × Int × Int × Int) × List (Int × Int × Int × Int) × Unit) (fun rec x =>
 bif Decidable.decide (x.snd.snd.snd.fst < (↑(List.length x.snd.fst) : Int)) then
  bif Decidable.decide (x.snd.snd.snd.fst < 20) then
   bif inRange x.snd.snd.snd.fst (List.length x.snd.fst) then
    Option.bind (f12 (List.getD x.snd.fst (Int.toNat x.snd.snd.snd.fst) (0, 0, 0, 0)).fst 4) fun y0 =>
     bif inRange x.snd.snd.snd.fst (List.length x.snd.fst) then
      Option.bind (f12 (List.getD x.snd.fst (Int.toNat x.snd.snd.snd.fst) (0, 0, 0, 0)).snd.fst 4) fun y1 =>
       Option.bind (α := Int × List (Int × Int × Int × Int) × Int × Int × Int × Int × Int × Int × Int × Int × Int × Int × Int × Int × Int × Int × Int × Int × Int × Int × List Int × Int × Int × Int × Int × List Int × List (Int × Int × Int × Int × Int × Int × Int × Int × Int × Int × Int) × List (Int × Int × Int × Int) × Unit ⊕ Int × Int × Int × Int × Int × Int × Int × Int × Int × Int × Int × Int × Int × Int × Int × Int × List Int × List (Int × Int × Int × Int × Int × Int × Int × Int × Int × Int × Int) × List (Int × Int × Int × Int) × Unit ⊕ Int × Int × Int × Int × Int × Int × Int × Int × List Int × List (Int × Int × Int × Int × Int × Int × Int × Int × Int × Int × Int) × List (Int × Int × Int × Int) × Unit) (
        bif Go.IntKind.wrap Go.IntKind.i64 (1 + y1.fst) == 1 then
         bif inRange x.snd.snd.snd.fst (List.length x.snd.fst) then
          Option.bind (f12 (List.getD x.snd.fst (Int.toNat x.snd.snd.snd.fst) (0, 0, 0, 0)).snd.snd.fst (↑(List.length x.snd.snd.snd.snd.snd.snd.snd.snd.snd.snd.snd.snd.snd.snd.snd.snd.snd.snd.snd.snd.fst) : Int)) fun y2 =>
           bif inRange y2.fst (List.length x.snd.snd.snd.snd.snd.snd.snd.snd.snd.snd.snd.snd.snd.snd.snd.snd.snd.snd.snd.snd.fst) then
            Option.bind (α := Int × List (Int × Int × Int × Int) × Int × Int × Int × Int × Int × Int × Int × Int × Int × Int × Int × Int × Int × Int × Int × Int × Int × Int × Int × List Int × Int × Int × Int × Int × List Int × List (Int × Int × Int × Int × Int × Int × Int × Int × Int × Int × Int) × List (Int × Int × Int × Int) × Unit ⊕ Int × List (Int × Int × Int × Int) × Int × Int × Int × Int × Int × Int × Int × Int × Int × Int × Int × Int × Int × Int × Int × Int × Int × Int × List Int × Int × Int × Int × Int × List Int × List (Int × Int × Int × Int × Int × Int × Int × Int × Int × Int × Int) × List (Int × Int × Int × Int) × Unit ⊕ Int × Int × Int × Int × Int × Int × Int × Int × Int × Int × Int × Int × Int × Int × Int × Int × List Int × List (Int × Int × Int × Int × Int × Int × Int × Int × Int × Int × Int) × List (Int × Int × Int × Int) × Unit ⊕ Int × Int × Int × Int × Int × Int × Int × Int × List Int × List (Int × Int × Int × Int × Int × Int × Int × Int × Int × Int × Int) × List (Int × Int × Int × Int) × Unit) (
             bif inRange x.snd.snd.snd.fst (List.length x.snd.fst) then
              bif Int.tmod (List.getD x.snd.fst (Int.toNat x.snd.snd.snd.fst) (0, 0, 0, 0)).snd.snd.snd 2 == 0 then
               some (Sum.inl (x.fst, x.snd.fst, x.snd.snd.fst, x.snd.snd.snd.fst, x.snd.snd.fst, x.snd.snd.snd.snd.fst, x.snd.snd.snd.snd.snd.fst, x.snd.snd.snd.snd.snd.snd.fst, x.snd.snd.snd.snd.snd.snd.snd.fst, x.snd.snd.snd.snd.snd.snd.snd.snd.fst, x.snd.snd.snd.snd.snd.snd.snd.snd.snd.fst, x.snd.snd.snd.snd.snd.snd.snd.snd.snd.snd.fst, x.snd.snd.snd.snd.snd.snd.snd.snd.snd.snd.snd.fst, x.snd.snd.snd.snd.snd.snd.snd.snd.snd.snd.snd.snd.fst, x.snd.snd.snd.snd.snd.snd.snd.snd.snd.snd.snd.snd.snd.fst, x.snd.snd.snd.snd.snd.snd.snd.snd.snd.snd.snd.snd.snd.snd.fst, x.snd.snd.snd.snd.snd.snd.snd.snd.snd.snd.snd.snd.snd.snd.snd.fst, x.snd.snd.snd.snd.snd.snd.snd.snd.snd.snd.snd.snd.snd.snd.snd.snd.fst, x.snd.snd.snd.snd.snd.snd.snd.snd.snd.snd.snd.snd.snd.snd.snd.snd.snd.fst, x.snd.snd.snd.snd.snd.snd.snd.snd.snd.snd.snd.snd.snd.snd.snd.snd.snd.snd.fst, x.snd.snd.snd.snd.snd.snd.snd.snd.snd.snd.snd.snd.snd.snd.snd.snd.snd.snd.snd.fst, x.snd.snd.snd.snd.snd.snd.snd.snd.snd.snd.snd.snd.snd.snd.snd.snd.snd.snd.snd.snd.fst, Go.IntKind.wrap Go.IntKind.i64 (1 + y0.fst), Go.IntKind.wrap Go.IntKind.i64 (1 + y1.fst), 0, 0, x.snd.snd.snd.snd.snd.snd.snd.snd.snd.snd.snd.snd.snd.snd.snd.snd.snd.snd.snd.snd.snd.fst, x.snd.snd.snd.snd.snd.snd.snd.snd.snd.snd.snd.snd.snd.snd.snd.snd.snd.snd.snd.snd.snd.snd.fst, x.snd.snd.snd.snd.snd.snd.snd.snd.snd.snd.snd.snd.snd.snd.snd.snd.snd.snd.snd.snd.snd.snd.snd.fst, ()))
              else
               some (Sum.inl (x.fst, x.snd.fst, x.snd.snd.fst, x.snd.snd.snd.fst, List.getD x.snd.snd.snd.snd.snd.snd.snd.snd.snd.snd.snd.snd.snd.snd.snd.snd.snd.snd.snd.snd.fst (Int.toNat y2.fst) 0, x.snd.snd.snd.snd.fst, x.snd.snd.snd.snd.snd.fst, x.snd.snd.snd.snd.snd.snd.fst, x.snd.snd.snd.snd.snd.snd.snd.fst, x.snd.snd.snd.snd.snd.snd.snd.snd.fst, x.snd.snd.snd.snd.snd.snd.snd.snd.snd.fst, x.snd.snd.snd.snd.snd.snd.snd.snd.snd.snd.fst, x.snd.snd.snd.snd.snd.snd.snd.snd.snd.snd.snd.fst, x.snd.snd.snd.snd.snd.snd.snd.snd.snd.snd.snd.snd.fst, x.snd.snd.snd.snd.snd.snd.snd.snd.snd.snd.snd.snd.snd.fst, x.snd.snd.snd.snd.snd.snd.snd.snd.snd.snd.snd.snd.snd.snd.fst, x.snd.snd.snd.snd.snd.snd.snd.snd.snd.snd.snd.snd.snd.snd.snd.fst, x.snd.snd.snd.snd.snd.snd.snd.snd.snd.snd.snd.snd.snd.snd.snd.snd.fst, x.snd.snd.snd.snd.snd.snd.snd.snd.snd.snd.snd.snd.snd.snd.snd.snd.snd.fst, x.snd.snd.snd.snd.snd.snd.snd.snd.snd.snd.snd.snd.snd.snd.snd.snd.snd.snd.fst, x.snd.snd.snd.snd.snd.snd.snd.snd.snd.snd.snd.snd.snd.snd.snd.snd.snd.snd.snd.fst, x.snd.snd.snd.snd.snd.snd.snd.snd.snd.snd.snd.snd.snd.snd.snd.snd.snd.snd.snd.snd.fst, Go.IntKind.wrap Go.IntKind.i64 (1 + y0.fst), Go.IntKind.wrap Go.IntKind.i64 (1 + y1.fst), 0, 0, x.snd.snd.snd.snd.snd.snd.snd.snd.snd.snd.snd.snd.snd.snd.snd.snd.snd.snd.snd.snd.snd.fst, x.snd.snd.snd.snd.snd.snd.snd.snd.snd.snd.snd.snd.snd.snd.snd.snd.snd.snd.snd.snd.snd.snd.fst, x.snd.snd.snd.snd.snd.snd.snd.snd.snd.snd.snd.snd.snd.snd.snd.snd.snd.snd.snd.snd.snd.snd.snd.fst, ()))
             else
              none
            ) fun y3 =>
             Sum.elim (fun y4 =>
              some (Sum.inl (y4.fst, y4.snd.fst, y4.snd.snd.fst, y4.snd.snd.snd.fst, y4.snd.snd.snd.snd.snd.fst, y4.snd.snd.snd.snd.snd.snd.fst, y4.snd.snd.snd.snd.snd.snd.snd.fst, y4.snd.snd.snd.snd.snd.snd.snd.snd.fst, y4.snd.snd.snd.snd.snd.snd.snd.snd.snd.fst, y4.snd.snd.snd.snd.snd.snd.snd.snd.snd.snd.fst, y4.snd.snd.snd.snd.snd.snd.snd.snd.snd.snd.snd.fst, y4.snd.snd.snd.snd.snd.snd.snd.snd.snd.snd.snd.snd.fst, y4.snd.snd.snd.snd.snd.snd.snd.snd.snd.snd.snd.snd.snd.fst, y4.snd.snd.snd.snd.snd.snd.snd.snd.snd.snd.snd.snd.snd.snd.fst, y4.snd.snd.snd.snd.snd.snd.snd.snd.snd.snd.snd.snd.snd.snd.snd.fst, y4.snd.snd.snd.snd.snd.snd.snd.snd.snd.snd.snd.snd.snd.snd.snd.snd.fst, y4.snd.snd.snd.snd.snd.snd.snd.snd.snd.snd.snd.snd.snd.snd.snd.snd.snd.fst, y4.snd.snd.snd.snd.snd.snd.snd.snd.snd.snd.snd.snd.snd.snd.snd.snd.snd.snd.fst, y4.snd.snd.snd.snd.snd.snd.snd.snd.snd.snd.snd.snd.snd.snd.snd.snd.snd.snd.snd.fst, y4.snd.snd.snd.snd.snd.snd.snd.snd.snd.snd.snd.snd.snd.snd.snd.snd.snd.snd.snd.snd.fst, y4.snd.snd.snd.snd.snd.snd.snd.snd.snd.snd.snd.snd.snd.snd.snd.snd.snd.snd.snd.snd.snd.fst, y4.snd.snd.snd.snd.snd.snd.snd.snd.snd.snd.snd.snd.snd.snd.snd.snd.snd.snd.snd.snd.snd.snd.fst, y4.snd.snd.snd.snd.snd.snd.snd.snd.snd.snd.snd.snd.snd.snd.snd.snd.snd.snd.snd.snd.snd.snd.snd.fst, Int.tmod y4.snd.snd.snd.snd.fst 24, Go.IntKind.wrap Go.IntKind.i64 (Int.tdiv y4.snd.snd.snd.snd.fst 24), y4.snd.snd.snd.snd.snd.snd.snd.snd.snd.snd.snd.snd.snd.snd.snd.snd.snd.snd.snd.snd.snd.snd.snd.snd.snd.snd.fst, y4.snd.snd.snd.snd.snd.snd.snd.snd.snd.snd.snd.snd.snd.snd.snd.snd.snd.snd.snd.snd.snd.snd.snd.snd.snd.snd.snd.fst, y4.snd.snd.snd.snd.snd.snd.snd.snd.snd.snd.snd.snd.snd.snd.snd.snd.snd.snd.snd.snd.snd.snd.snd.snd.snd.snd.snd.snd.fst, ()))
             ) (fun z5 =>
              some (z5)
             ) (y3)
           else
            none
         else
          none
        else
         bif Go.IntKind.wrap Go.IntKind.i64 (1 + y1.fst) == 2 then
          bif inRange x.snd.snd.snd.fst (List.length x.snd.fst) then
           Option.bind (f12 (List.getD x.snd.fst (Int.toNat x.snd.snd.snd.fst) (0, 0, 0, 0)).snd.snd.fst 4) fun y6 =>
            bif inRange x.snd.snd.snd.fst (List.length x.snd.fst) then
             Option.bind (f12 (List.getD x.snd.fst (Int.toNat x.snd.snd.snd.fst) (0, 0, 0, 0)).snd.snd.snd 4) fun y7 =>
              bif inRange x.snd.snd.snd.fst (List.length x.snd.fst) then
               bif Int.tmod (List.getD x.snd.fst (Int.toNat x.snd.snd.snd.fst) (0, 0, 0, 0)).snd.snd.fst 2 == 0 then
                some (Sum.inl (x.fst, x.snd.fst, x.snd.snd.fst, x.snd.snd.snd.fst, x.snd.snd.snd.snd.fst, x.snd.snd.snd.snd.snd.fst, x.snd.snd.snd.snd.snd.snd.fst, x.snd.snd.snd.snd.snd.snd.snd.fst, x.snd.snd.snd.snd.snd.snd.snd.snd.fst, x.snd.snd.snd.snd.snd.snd.snd.snd.snd.fst, x.snd.snd.snd.snd.snd.snd.snd.snd.snd.snd.fst, x.snd.snd.snd.snd.snd.snd.snd.snd.snd.snd.snd.fst, x.snd.snd.snd.snd.snd.snd.snd.snd.snd.snd.snd.snd.fst, x.snd.snd.snd.snd.snd.snd.snd.snd.snd.snd.snd.snd.snd.fst, x.snd.snd.snd.snd.snd.snd.snd.snd.snd.snd.snd.snd.snd.snd.fst, x.snd.snd.snd.snd.snd.snd.snd.snd.snd.snd.snd.snd.snd.snd.snd.fst, x.snd.snd.snd.snd.snd.snd.snd.snd.snd.snd.snd.snd.snd.snd.snd.snd.fst, x.snd.snd.snd.snd.snd.snd.snd.snd.snd.snd.snd.snd.snd.snd.snd.snd.snd.fst, x.snd.snd.snd.snd.snd.snd.snd.snd.snd.snd.snd.snd.snd.snd.snd.snd.snd.snd.fst, x.snd.snd.snd.snd.snd.snd.snd.snd.snd.snd.snd.snd.snd.snd.snd.snd.snd.snd.snd.fst, x.snd.snd.snd.snd.snd.snd.snd.snd.snd.snd.snd.snd.snd.snd.snd.snd.snd.snd.snd.snd.fst, Go.IntKind.wrap Go.IntKind.i64 (1 + y0.fst), Go.IntKind.wrap Go.IntKind.i64 (1 + y1.fst), x.fst, y7.fst, x.snd.snd.snd.snd.snd.snd.snd.snd.snd.snd.snd.snd.snd.snd.snd.snd.snd.snd.snd.snd.snd.fst, x.snd.snd.snd.snd.snd.snd.snd.snd.snd.snd.snd.snd.snd.snd.snd.snd.snd.snd.snd.snd.snd.snd.fst, x.snd.snd.snd.snd.snd.snd.snd.snd.snd.snd.snd.snd.snd.snd.snd.snd.snd.snd.snd.snd.snd.snd.snd.fst, ()))
               else
                some (Sum.inl (x.fst, x.snd.fst, x.snd.snd.fst, x.snd.snd.snd.fst, x.snd.snd.snd.snd.fst, x.snd.snd.snd.snd.snd.fst, x.snd.snd.snd.snd.snd.snd.fst, x.snd.snd.snd.snd.snd.snd.snd.fst, x.snd.snd.snd.snd.snd.snd.snd.snd.fst, x.snd.snd.snd.snd.snd.snd.snd.snd.snd.fst, x.snd.snd.snd.snd.snd.snd.snd.snd.snd.snd.fst, x.snd.snd.snd.snd.snd.snd.snd.snd.snd.snd.snd.fst, x.snd.snd.snd.snd.snd.snd.snd.snd.snd.snd.snd.snd.fst, x.snd.snd.snd.snd.snd.snd.snd.snd.snd.snd.snd.snd.snd.fst, x.snd.snd.snd.snd.snd.snd.snd.snd.snd.snd.snd.snd.snd.snd.fst, x.snd.snd.snd.snd.snd.snd.snd.snd.snd.snd.snd.snd.snd.snd.snd.fst, x.snd.snd.snd.snd.snd.snd.snd.snd.snd.snd.snd.snd.snd.snd.snd.snd.fst, x.snd.snd.snd.snd.snd.snd.snd.snd.snd.snd.snd.snd.snd.snd.snd.snd.snd.fst, x.snd.snd.snd.snd.snd.snd.snd.snd.snd.snd.snd.snd.snd.snd.snd.snd.snd.snd.fst, x.snd.snd.snd.snd.snd.snd.snd.snd.snd.snd.snd.snd.snd.snd.snd.snd.snd.snd.snd.fst, x.snd.snd.snd.snd.snd.snd.snd.snd.snd.snd.snd.snd.snd.snd.snd.snd.snd.snd.snd.snd.fst, Go.IntKind.wrap Go.IntKind.i64 (1 + y0.fst), Go.IntKind.wrap Go.IntKind.i64 (1 + y1.fst), y6.fst, y7.fst, x.snd.snd.snd.snd.snd.snd.snd.snd.snd.snd.snd.snd.snd.snd.snd.snd.snd.snd.snd.snd.snd.fst, x.snd.snd.snd.snd.snd.snd.snd.snd.snd.snd.snd.snd.snd.snd.snd.snd.snd.snd.snd.snd.snd.snd.fst, x.snd.snd.snd.snd.snd.snd.snd.snd.snd.snd.snd.snd.snd.snd.snd.snd.snd.snd.snd.snd.snd.snd.snd.fst, ()))
              else
               none
            else
             none
          else
           none
         else
          bif Go.IntKind.wrap Go.IntKind.i64 (1 + y1.fst) == 3 then
           bif inRange x.snd.snd.snd.fst (List.length x.snd.fst) then
            Option.bind (f12 (List.getD x.snd.fst (Int.toNat x.snd.snd.snd.fst) (0, 0, 0, 0)).fst 2) fun y8 =>
             some (Sum.inl (x.fst, x.snd.fst, x.snd.snd.fst, x.snd.snd.snd.fst, x.snd.snd.snd.snd.fst, x.snd.snd.snd.snd.snd.fst, x.snd.snd.snd.snd.snd.snd.fst, x.snd.snd.snd.snd.snd.snd.snd.fst, x.snd.snd.snd.snd.snd.snd.snd.snd.fst, x.snd.snd.snd.snd.snd.snd.snd.snd.snd.fst, x.snd.snd.snd.snd.snd.snd.snd.snd.snd.snd.fst, x.snd.snd.snd.snd.snd.snd.snd.snd.snd.snd.snd.fst, x.snd.snd.snd.snd.snd.snd.snd.snd.snd.snd.snd.snd.fst, x.snd.snd.snd.snd.snd.snd.snd.snd.snd.snd.snd.snd.snd.fst, x.snd.snd.snd.snd.snd.snd.snd.snd.snd.snd.snd.snd.snd.snd.fst, x.snd.snd.snd.snd.snd.snd.snd.snd.snd.snd.snd.snd.snd.snd.snd.fst, x.snd.snd.snd.snd.snd.snd.snd.snd.snd.snd.snd.snd.snd.snd.snd.snd.fst, x.snd.snd.snd.snd.snd.snd.snd.snd.snd.snd.snd.snd.snd.snd.snd.snd.snd.fst, x.snd.snd.snd.snd.snd.snd.snd.snd.snd.snd.snd.snd.snd.snd.snd.snd.snd.snd.fst, x.snd.snd.snd.snd.snd.snd.snd.snd.snd.snd.snd.snd.snd.snd.snd.snd.snd.snd.snd.fst, x.snd.snd.snd.snd.snd.snd.snd.snd.snd.snd.snd.snd.snd.snd.snd.snd.snd.snd.snd.snd.fst, Go.IntKind.wrap Go.IntKind.i64 (2 + y8.fst), Go.IntKind.wrap Go.IntKind.i64 (1 + y1.fst), x.fst, Go.IntKind.wrap Go.IntKind.i64 (Go.IntKind.wrap Go.IntKind.i64 (2 + y8.fst) - 2), x.snd.snd.snd.snd.snd.snd.snd.snd.snd.snd.snd.snd.snd.snd.snd.snd.snd.snd.snd.snd.snd.fst, x.snd.snd.snd.snd.snd.snd.snd.snd.snd.snd.snd.snd.snd.snd.snd.snd.snd.snd.snd.snd.snd.snd.fst, x.snd.snd.snd.snd.snd.snd.snd.snd.snd.snd.snd.snd.snd.snd.snd.snd.snd.snd.snd.snd.snd.snd.snd.fst, ()))
           else
            none
          else
           bif Go.IntKind.wrap Go.IntKind.i64 (1 + y1.fst) == 4 then
            bif inRange x.snd.snd.snd.fst (List.length x.snd.fst) then
             Option.bind (f12 (List.getD x.snd.fst (Int.toNat x.snd.snd.snd.fst) (0, 0, 0, 0)).snd.snd.fst 3) fun y9 =>
              some (Sum.inl (x.fst, x.snd.fst, x.snd.snd.fst, x.snd.snd.snd.fst, x.snd.snd.snd.snd.fst, x.snd.snd.snd.snd.snd.fst, x.snd.snd.snd.snd.snd.snd.fst, x.snd.snd.snd.snd.snd.snd.snd.fst, x.snd.snd.snd.snd.snd.snd.snd.snd.fst, x.snd.snd.snd.snd.snd.snd.snd.snd.snd.fst, x.snd.snd.snd.snd.snd.snd.snd.snd.snd.snd.fst, x.snd.snd.snd.snd.snd.snd.snd.snd.snd.snd.snd.fst, x.snd.snd.snd.snd.snd.snd.snd.snd.snd.snd.snd.snd.fst, x.snd.snd.snd.snd.snd.snd.snd.snd.snd.snd.snd.snd.snd.fst, x.snd.snd.snd.snd.snd.snd.snd.snd.snd.snd.snd.snd.snd.snd.fst, x.snd.snd.snd.snd.snd.snd.snd.snd.snd.snd.snd.snd.snd.snd.snd.fst, x.snd.snd.snd.snd.snd.snd.snd.snd.snd.snd.snd.snd.snd.snd.snd.snd.fst, x.snd.snd.snd.snd.snd.snd.snd.snd.snd.snd.snd.snd.snd.snd.snd.snd.snd.fst, x.snd.snd.snd.snd.snd.snd.snd.snd.snd.snd.snd.snd.snd.snd.snd.snd.snd.snd.fst, x.snd.snd.snd.snd.snd.snd.snd.snd.snd.snd.snd.snd.snd.snd.snd.snd.snd.snd.snd.fst, x.snd.snd.snd.snd.snd.snd.snd.snd.snd.snd.snd.snd.snd.snd.snd.snd.snd.snd.snd.snd.fst, Go.IntKind.wrap Go.IntKind.i64 (1 + y0.fst), Go.IntKind.wrap Go.IntKind.i64 (1 + y1.fst), y9.fst, 0, x.snd.snd.snd.snd.snd.snd.snd.snd.snd.snd.snd.snd.snd.snd.snd.snd.snd.snd.snd.snd.snd.fst, x.snd.snd.snd.snd.snd.snd.snd.snd.snd.snd.snd.snd.snd.snd.snd.snd.snd.snd.snd.snd.snd.snd.fst, x.snd.snd.snd.snd.snd.snd.snd.snd.snd.snd.snd.snd.snd.snd.snd.snd.snd.snd.snd.snd.snd.snd.snd.fst, ()))
            else
             none
           else
            some (Sum.inl (x.fst, x.snd.fst, x.snd.snd.fst, x.snd.snd.snd.fst, x.snd.snd.snd.snd.fst, x.snd.snd.snd.snd.snd.fst, x.snd.snd.snd.snd.snd.snd.fst, x.snd.snd.snd.snd.snd.snd.snd.fst, x.snd.snd.snd.snd.snd.snd.snd.snd.fst, x.snd.snd.snd.snd.snd.snd.snd.snd.snd.fst, x.snd.snd.snd.snd.snd.snd.snd.snd.snd.snd.fst, x.snd.snd.snd.snd.snd.snd.snd.snd.snd.snd.snd.fst, x.snd.snd.snd.snd.snd.snd.snd.snd.snd.snd.snd.snd.fst, x.snd.snd.snd.snd.snd.snd.snd.snd.snd.snd.snd.snd.snd.fst, x.snd.snd.snd.snd.snd.snd.snd.snd.snd.snd.snd.snd.snd.snd.fst, x.snd.snd.snd.snd.snd.snd.snd.snd.snd.snd.snd.snd.snd.snd.snd.fst, x.snd.snd.snd.snd.snd.snd.snd.snd.snd.snd.snd.snd.snd.snd.snd.snd.fst, x.snd.snd.snd.snd.snd.snd.snd.snd.snd.snd.snd.snd.snd.snd.snd.snd.snd.fst, x.snd.snd.snd.snd.snd.snd.snd.snd.snd.snd.snd.snd.snd.snd.snd.snd.snd.snd.fst, x.snd.snd.snd.snd.snd.snd.snd.snd.snd.snd.snd.snd.snd.snd.snd.snd.snd.snd.snd.fst, x.snd.snd.snd.snd.snd.snd.snd.snd.snd.snd.snd.snd.snd.snd.snd.snd.snd.snd.snd.snd.fst, Go.IntKind.wrap Go.IntKind.i64 (1 + y0.fst), Go.IntKind.wrap Go.IntKind.i64 (1 + y1.fst), 0, 0, x.snd.snd.snd.snd.snd.snd.snd.snd.snd.snd.snd.snd.snd.snd.snd.snd.snd.snd.snd.snd.snd.fst, x.snd.snd.snd.snd.snd.snd.snd.snd.snd.snd.snd.snd.snd.snd.snd.snd.snd.snd.snd.snd.snd.snd.fst, x.snd.snd.snd.snd.snd.snd.snd.snd.snd.snd.snd.snd.snd.snd.snd.snd.snd.snd.snd.snd.snd.snd.snd.fst, ()))
       ) fun y10 =>
        Sum.elim (fun y11 =>
         Option.bind (α := Int × List (Int × Int × Int × Int) × Int × Int × Int × Int × Int × Int × Int × Int × Int × Int × Int × Int × Int × Int × Int × Int × Int × Int × List Int × Int × Int × Int × Int × List Int × List (Int × Int × Int × Int × Int × Int × Int × Int × Int × Int × Int) × List (Int × Int × Int × Int) × Unit ⊕ Int × Int × Int × Int × Int × Int × Int × Int × Int × Int × Int × Int × Int × Int × Int × Int × List Int × List (Int × Int × Int × Int × Int × Int × Int × Int × Int × Int × Int) × List (Int × Int × Int × Int) × Unit ⊕ Int × Int × Int × Int × Int × Int × Int × Int × List Int × List (Int × Int × Int × Int × Int × Int × Int × Int × Int × Int × Int) × List (Int × Int × Int × Int) × Unit) (
          bif y11.snd.snd.snd.snd.snd.snd.snd.snd.snd.snd.snd.snd.snd.snd.snd.snd.snd.snd.snd.snd.snd.fst == 4 then
           bif y11.snd.snd.snd.snd.snd.snd.snd.snd.snd.snd.snd.snd.snd.snd.snd.snd.snd.snd.snd.snd.snd.snd.fst != 1 then
            some (Sum.inl (y11.fst, y11.snd.fst, y11.snd.snd.fst, y11.snd.snd.snd.fst, y11.snd.snd.snd.snd.fst, y11.snd.snd.snd.snd.snd.fst, y11.snd.snd.snd.snd.snd.snd.fst, y11.snd.snd.snd.snd.snd.snd.snd.fst, y11.snd.snd.snd.snd.snd.snd.snd.snd.fst, y11.snd.snd.snd.snd.snd.snd.snd.snd.snd.fst, y11.snd.snd.snd.snd.snd.snd.snd.snd.snd.snd.fst, y11.snd.snd.snd.snd.snd.snd.snd.snd.snd.snd.snd.fst, y11.snd.snd.snd.snd.snd.snd.snd.snd.snd.snd.snd.snd.fst, y11.snd.snd.snd.snd.snd.snd.snd.snd.snd.snd.snd.snd.snd.fst, y11.snd.snd.snd.snd.snd.snd.snd.snd.snd.snd.snd.snd.snd.snd.fst, y11.snd.snd.snd.snd.snd.snd.snd.snd.snd.snd.snd.snd.snd.snd.snd.fst, y11.snd.snd.snd.snd.snd.snd.snd.snd.snd.snd.snd.snd.snd.snd.snd.snd.fst, y11.snd.snd.snd.snd.snd.snd.snd.snd.snd.snd.snd.snd.snd.snd.snd.snd.snd.fst, y11.snd.snd.snd.snd.snd.snd.snd.snd.snd.snd.snd.snd.snd.snd.snd.snd.snd.snd.fst, y11.snd.snd.snd.snd.snd.snd.snd.snd.snd.snd.snd.snd.snd.snd.snd.snd.snd.snd.snd.fst, y11.snd.snd.snd.snd.snd.snd.snd.snd.snd.snd.snd.snd.snd.snd.snd.snd.snd.snd.snd.snd.fst, 1, y11.snd.snd.snd.snd.snd.snd.snd.snd.snd.snd.snd.snd.snd.snd.snd.snd.snd.snd.snd.snd.snd.snd.fst, y11.snd.snd.snd.snd.snd.snd.snd.snd.snd.snd.snd.snd.snd.snd.snd.snd.snd.snd.snd.snd.snd.snd.snd.fst, y11.snd.snd.snd.snd.snd.snd.snd.snd.snd.snd.snd.snd.snd.snd.snd.snd.snd.snd.snd.snd.snd.snd.snd.snd.fst, y11.snd.snd.snd.snd.snd.snd.snd.snd.snd.snd.snd.snd.snd.snd.snd.snd.snd.snd.snd.snd.snd.snd.snd.snd.snd.fst, y11.snd.snd.snd.snd.snd.snd.snd.snd.snd.snd.snd.snd.snd.snd.snd.snd.snd.snd.snd.snd.snd.snd.snd.snd.snd.snd.fst, y11.snd.snd.snd.snd.snd.snd.snd.snd.snd.snd.snd.snd.snd.snd.snd.snd.snd.snd.snd.snd.snd.snd.snd.snd.snd.snd.snd.fst, ()))
           else
            some (Sum.inl (y11.fst, y11.snd.fst, y11.snd.snd.fst, y11.snd.snd.snd.fst, y11.snd.snd.snd.snd.fst, y11.snd.snd.snd.snd.snd.fst, y11.snd.snd.snd.snd.snd.snd.fst, y11.snd.snd.snd.snd.snd.snd.snd.fst, y11.snd.snd.snd.snd.snd.snd.snd.snd.fst, y11.snd.snd.snd.snd.snd.snd.snd.snd.snd.fst, y11.snd.snd.snd.snd.snd.snd.snd.snd.snd.snd.fst, y11.snd.snd.snd.snd.snd.snd.snd.snd.snd.snd.snd.fst, y11.snd.snd.snd.snd.snd.snd.snd.snd.snd.snd.snd.snd.fst, y11.snd.snd.snd.snd.snd.snd.snd.snd.snd.snd.snd.snd.snd.fst, y11.snd.snd.snd.snd.snd.snd.snd.snd.snd.snd.snd.snd.snd.snd.fst, y11.snd.snd.snd.snd.snd.snd.snd.snd.snd.snd.snd.snd.snd.snd.snd.fst, y11.snd.snd.snd.snd.snd.snd.snd.snd.snd.snd.snd.snd.snd.snd.snd.snd.fst, y11.snd.snd.snd.snd.snd.snd.snd.snd.snd.snd.snd.snd.snd.snd.snd.snd.snd.fst, y11.snd.snd.snd.snd.snd.snd.snd.snd.snd.snd.snd.snd.snd.snd.snd.snd.snd.snd.fst, y11.snd.snd.snd.snd.snd.snd.snd.snd.snd.snd.snd.snd.snd.snd.snd.snd.snd.snd.snd.fst, y11.snd.snd.snd.snd.snd.snd.snd.snd.snd.snd.snd.snd.snd.snd.snd.snd.snd.snd.snd.snd.fst, y11.snd.snd.snd.snd.snd.snd.snd.snd.snd.snd.snd.snd.snd.snd.snd.snd.snd.snd.snd.snd.snd.fst, y11.snd.snd.snd.snd.snd.snd.snd.snd.snd.snd.snd.snd.snd.snd.snd.snd.snd.snd.snd.snd.snd.snd.fst, y11.snd.snd.snd.snd.snd.snd.snd.snd.snd.snd.snd.snd.snd.snd.snd.snd.snd.snd.snd.snd.snd.snd.snd.fst, y11.snd.snd.snd.snd.snd.snd.snd.snd.snd.snd.snd.snd.snd.snd.snd.snd.snd.snd.snd.snd.snd.snd.snd.snd.fst, y11.snd.snd.snd.snd.snd.snd.snd.snd.snd.snd.snd.snd.snd.snd.snd.snd.snd.snd.snd.snd.snd.snd.snd.snd.snd.fst, y11.snd.snd.snd.snd.snd.snd.snd.snd.snd.snd.snd.snd.snd.snd.snd.snd.snd.snd.snd.snd.snd.snd.snd.snd.snd.snd.fst, y11.snd.snd.snd.snd.snd.snd.snd.snd.snd.snd.snd.snd.snd.snd.snd.snd.snd.snd.snd.snd.snd.snd.snd.snd.snd.snd.snd.fst, ()))
          else
           some (Sum.inl (y11.fst, y11.snd.fst, y11.snd.snd.fst, y11.snd.snd.snd.fst, y11.snd.snd.snd.snd.fst, y11.snd.snd.snd.snd.snd.fst, y11.snd.snd.snd.snd.snd.snd.fst, y11.snd.snd.snd.snd.snd.snd.snd.fst, y11.snd.snd.snd.snd.snd.snd.snd.snd.fst, y11.snd.snd.snd.snd.snd.snd.snd.snd.snd.fst, y11.snd.snd.snd.snd.snd.snd.snd.snd.snd.snd.fst, y11.snd.snd.snd.snd.snd.snd.snd.snd.snd.snd.snd.fst, y11.snd.snd.snd.snd.snd.snd.snd.snd.snd.snd.snd.snd.fst, y11.snd.snd.snd.snd.snd.snd.snd.snd.snd.snd.snd.snd.snd.fst, y11.snd.snd.snd.snd.snd.snd.snd.snd.snd.snd.snd.snd.snd.snd.fst, y11.snd.snd.snd.snd.snd.snd.snd.snd.snd.snd.snd.snd.snd.snd.snd.fst, y11.snd.snd.snd.snd.snd.snd.snd.snd.snd.snd.snd.snd.snd.snd.snd.snd.fst, y11.snd.snd.snd.snd.snd.snd.snd.snd.snd.snd.snd.snd.snd.snd.snd.snd.snd.fst, y11.snd.snd.snd.snd.snd.snd.snd.snd.snd.snd.snd.snd.snd.snd.snd.snd.snd.snd.fst, y11.snd.snd.snd.snd.snd.snd.snd.snd.snd.snd.snd.snd.snd.snd.snd.snd.snd.snd.snd.fst, y11.snd.snd.snd.snd.snd.snd.snd.snd.snd.snd.snd.snd.snd.snd.snd.snd.snd.snd.snd.snd.fst, y11.snd.snd.snd.snd.snd.snd.snd.snd.snd.snd.snd.snd.snd.snd.snd.snd.snd.snd.snd.snd.snd.fst, y11.snd.snd.snd.snd.snd.snd.snd.snd.snd.snd.snd.snd.snd.snd.snd.snd.snd.snd.snd.snd.snd.snd.fst, y11.snd.snd.snd.snd.snd.snd.snd.snd.snd.snd.snd.snd.snd.snd.snd.snd.snd.snd.snd.snd.snd.snd.snd.fst, y11.snd.snd.snd.snd.snd.snd.snd.snd.snd.snd.snd.snd.snd.snd.snd.snd.snd.snd.snd.snd.snd.snd.snd.snd.fst, y11.snd.snd.snd.snd.snd.snd.snd.snd.snd.snd.snd.snd.snd.snd.snd.snd.snd.snd.snd.snd.snd.snd.snd.snd.snd.fst, y11.snd.snd.snd.snd.snd.snd.snd.snd.snd.snd.snd.snd.snd.snd.snd.snd.snd.snd.snd.snd.snd.snd.snd.snd.snd.snd.fst, y11.snd.snd.snd.snd.snd.snd.snd.snd.snd.snd.snd.snd.snd.snd.snd.snd.snd.snd.snd.snd.snd.snd.snd.snd.snd.snd.snd.fst, ()))
         ) fun y12 =>
          Sum.elim (fun y13 =>
           Option.bind (f26 y13.snd.snd.snd.snd.snd.snd.snd.snd.snd.snd.snd.snd.snd.snd.snd.snd.snd.snd.snd.snd.snd.snd.snd.snd.snd.snd.snd.fst y13.snd.snd.snd.snd.snd.snd.snd.snd.snd.snd.snd.snd.snd.snd.snd.snd.snd.snd.snd.snd.snd.snd.fst y13.snd.snd.snd.snd.snd.snd.snd.snd.snd.snd.snd.snd.snd.snd.snd.snd.snd.snd.snd.snd.snd.snd.snd.fst y13.snd.snd.snd.snd.snd.snd.snd.snd.snd.snd.snd.snd.snd.snd.snd.snd.snd.snd.snd.snd.snd.snd.snd.snd.fst) fun y14 =>
            bif Decidable.decide (y14.fst < 0) then
             bif inRange (Int.tmod (Go.IntKind.wrap Go.IntKind.i64 (2 * y13.snd.snd.snd.fst)) 40) (List.length y13.snd.snd.snd.snd.snd.snd.snd.snd.snd.snd.snd.snd.snd.snd.snd.snd.snd.snd.snd.snd.snd.snd.snd.snd.snd.snd.snd.fst) then
              let s0 : List (Int × Int × Int × Int) := List.set y13.snd.snd.snd.snd.snd.snd.snd.snd.snd.snd.snd.snd.snd.snd.snd.snd.snd.snd.snd.snd.snd.snd.snd.snd.snd.snd.snd.fst (Int.toNat (Int.tmod (Go.IntKind.wrap Go.IntKind.i64 (2 * y13.snd.snd.snd.fst)) 40)) (y13.snd.snd.snd.snd.snd.snd.snd.snd.snd.snd.snd.snd.snd.snd.snd.snd.snd.snd.snd.snd.snd.fst, y13.snd.snd.snd.snd.snd.snd.snd.snd.snd.snd.snd.snd.snd.snd.snd.snd.snd.snd.snd.snd.snd.snd.fst, y13.snd.snd.snd.snd.snd.snd.snd.snd.snd.snd.snd.snd.snd.snd.snd.snd.snd.snd.snd.snd.snd.snd.snd.fst, y13.snd.snd.snd.snd.snd.snd.snd.snd.snd.snd.snd.snd.snd.snd.snd.snd.snd.snd.snd.snd.snd.snd.snd.snd.fst)
              rec (y13.fst, y13.snd.fst, y13.snd.snd.fst, Go.IntKind.wrap Go.IntKind.i64 (y13.snd.snd.snd.fst + 1), y13.snd.snd.snd.snd.fst, y13.snd.snd.snd.snd.snd.fst, y13.snd.snd.snd.snd.snd.snd.fst, y13.snd.snd.snd.snd.snd.snd.snd.fst, y13.snd.snd.snd.snd.snd.snd.snd.snd.fst, y13.snd.snd.snd.snd.snd.snd.snd.snd.snd.fst, y13.snd.snd.snd.snd.snd.snd.snd.snd.snd.snd.fst, y13.snd.snd.snd.snd.snd.snd.snd.snd.snd.snd.snd.fst, y13.snd.snd.snd.snd.snd.snd.snd.snd.snd.snd.snd.snd.fst, y13.snd.snd.snd.snd.snd.snd.snd.snd.snd.snd.snd.snd.snd.fst, y13.snd.snd.snd.snd.snd.snd.snd.snd.snd.snd.snd.snd.snd.snd.fst, y13.snd.snd.snd.snd.snd.snd.snd.snd.snd.snd.snd.snd.snd.snd.snd.fst, y13.snd.snd.snd.snd.snd.snd.snd.snd.snd.snd.snd.snd.snd.snd.snd.snd.fst, y13.snd.snd.snd.snd.snd.snd.snd.snd.snd.snd.snd.snd.snd.snd.snd.snd.snd.fst, y13.snd.snd.snd.snd.snd.snd.snd.snd.snd.snd.snd.snd.snd.snd.snd.snd.snd.snd.fst, y13.snd.snd.snd.snd.snd.snd.snd.snd.snd.snd.snd.snd.snd.snd.snd.snd.snd.snd.snd.fst, y13.snd.snd.snd.snd.snd.snd.snd.snd.snd.snd.snd.snd.snd.snd.snd.snd.snd.snd.snd.snd.fst, y13.snd.snd.snd.snd.snd.snd.snd.snd.snd.snd.snd.snd.snd.snd.snd.snd.snd.snd.snd.snd.snd.snd.snd.snd.snd.fst, y13.snd.snd.snd.snd.snd.snd.snd.snd.snd.snd.snd.snd.snd.snd.snd.snd.snd.snd.snd.snd.snd.snd.snd.snd.snd.snd.fst, s0, ())
             else
              none
            else
             rec (y13.fst, y13.snd.fst, y13.snd.snd.fst, Go.IntKind.wrap Go.IntKind.i64 (y13.snd.snd.snd.fst + 1), y13.snd.snd.snd.snd.fst, y13.snd.snd.snd.snd.snd.fst, y13.snd.snd.snd.snd.snd.snd.fst, y13.snd.snd.snd.snd.snd.snd.snd.fst, y13.snd.snd.snd.snd.snd.snd.snd.snd.fst, y13.snd.snd.snd.snd.snd.snd.snd.snd.snd.fst, y13.snd.snd.snd.snd.snd.snd.snd.snd.snd.snd.fst, y13.snd.snd.snd.snd.snd.snd.snd.snd.snd.snd.snd.fst, y13.snd.snd.snd.snd.snd.snd.snd.snd.snd.snd.snd.snd.fst, y13.snd.snd.snd.snd.snd.snd.snd.snd.snd.snd.snd.snd.snd.fst, y13.snd.snd.snd.snd.snd.snd.snd.snd.snd.snd.snd.snd.snd.snd.fst, y13.snd.snd.snd.snd.snd.snd.snd.snd.snd.snd.snd.snd.snd.snd.snd.fst, y13.snd.snd.snd.snd.snd.snd.snd.snd.snd.snd.snd.snd.snd.snd.snd.snd.fst, y13.snd.snd.snd.snd.snd.snd.snd.snd.snd.snd.snd.snd.snd.snd.snd.snd.snd.fst, y13.snd.snd.snd.snd.snd.snd.snd.snd.snd.snd.snd.snd.snd.snd.snd.snd.snd.snd.fst, y13.snd.snd.snd.snd.snd.snd.snd.snd.snd.snd.snd.snd.snd.snd.snd.snd.snd.snd.snd.fst, y13.snd.snd.snd.snd.snd.snd.snd.snd.snd.snd.snd.snd.snd.snd.snd.snd.snd.snd.snd.snd.fst, y13.snd.snd.snd.snd.snd.snd.snd.snd.snd.snd.snd.snd.snd.snd.snd.snd.snd.snd.snd.snd.snd.snd.snd.snd.snd.fst, y13.snd.snd.snd.snd.snd.snd.snd.snd.snd.snd.snd.snd.snd.snd.snd.snd.snd.snd.snd.snd.snd.snd.snd.snd.snd.snd.fst, y13.snd.snd.snd.snd.snd.snd.snd.snd.snd.snd.snd.snd.snd.snd.snd.snd.snd.snd.snd.snd.snd.snd.snd.snd.snd.snd.snd.fst, ())
          ) (fun z15 =>
           some (z15)
          ) (y12)
        ) (fun z16 =>
         some (z16)
        ) (y10)
     else
      none
   else
    none
  else
   some (Sum.inl (x.snd.snd.snd.snd.fst, x.snd.snd.snd.snd.snd.fst, x.snd.snd.snd.snd.snd.snd.fst, x.snd.snd.snd.snd.snd.snd.snd.fst, x.snd.snd.snd.snd.snd.snd.snd.snd.fst, x.snd.snd.snd.snd.snd.snd.snd.snd.snd.fst, x.snd.snd.snd.snd.snd.snd.snd.snd.snd.snd.fst, x.snd.snd.snd.snd.snd.snd.snd.snd.snd.snd.snd.fst, x.snd.snd.snd.snd.snd.snd.snd.snd.snd.snd.snd.snd.fst, x.snd.snd.snd.snd.snd.snd.snd.snd.snd.snd.snd.snd.snd.fst, x.snd.snd.snd.snd.snd.snd.snd.snd.snd.snd.snd.snd.snd.snd.fst, x.snd.snd.snd.snd.snd.snd.snd.snd.snd.snd.snd.snd.snd.snd.snd.fst, x.snd.snd.snd.snd.snd.snd.snd.snd.snd.snd.snd.snd.snd.snd.snd.snd.fst, x.snd.snd.snd.snd.snd.snd.snd.snd.snd.snd.snd.snd.snd.snd.snd.snd.snd.fst, x.snd.snd.snd.snd.snd.snd.snd.snd.snd.snd.snd.snd.snd.snd.snd.snd.snd.snd.fst, x.snd.snd.snd.snd.snd.snd.snd.snd.snd.snd.snd.snd.snd.snd.snd.snd.snd.snd.snd.fst, x.snd.snd.snd.snd.snd.snd.snd.snd.snd.snd.snd.snd.snd.snd.snd.snd.snd.snd.snd.snd.snd.fst, x.snd.snd.snd.snd.snd.snd.snd.snd.snd.snd.snd.snd.snd.snd.snd.snd.snd.snd.snd.snd.snd.snd.fst, x.snd.snd.snd.snd.snd.snd.snd.snd.snd.snd.snd.snd.snd.snd.snd.snd.snd.snd.snd.snd.snd.snd.snd.fst, ()))
 else
  some (Sum.inl (x.snd.snd.snd.snd.fst, x.snd.snd.snd.snd.snd.fst, x.snd.snd.snd.snd.snd.snd.fst, x.snd.snd.snd.snd.snd.snd.snd.fst, x.snd.snd.snd.snd.snd.snd.snd.snd.fst, x.snd.snd.snd.snd.snd.snd.snd.snd.snd.fst, x.snd.snd.snd.snd.snd.snd.snd.snd.snd.snd.fst, x.snd.snd.snd.snd.snd.snd.snd.snd.snd.snd.snd.fst, x.snd.snd.snd.snd.snd.snd.snd.snd.snd.snd.snd.snd.fst, x.snd.snd.snd.snd.snd.snd.snd.snd.snd.snd.snd.snd.snd.fst, x.snd.snd.snd.snd.snd.snd.snd.snd.snd.snd.snd.snd.snd.snd.fst, x.snd.snd.snd.snd.snd.snd.snd.snd.snd.snd.snd.snd.snd.snd.snd.fst, x.snd.snd.snd.snd.snd.snd.snd.snd.snd.snd.snd.snd.snd.snd.snd.snd.fst, x.snd.snd.snd.snd.snd.snd.snd.snd.snd.snd.snd.snd.snd.snd.snd.snd.snd.fst, x.snd.snd.snd.snd.snd.snd.snd.snd.snd.snd.snd.snd.snd.snd.snd.snd.snd.snd.fst, x.snd.snd.snd.snd.snd.snd.snd.snd.snd.snd.snd.snd.snd.snd.snd.snd.snd.snd.snd.fst, x.snd.snd.snd.snd.snd.snd.snd.snd.snd.snd.snd.snd.snd.snd.snd.snd.snd.snd.snd.snd.snd.fst, x.snd.snd.snd.snd.snd.snd.snd.snd.snd.snd.snd.snd.snd.snd.snd.snd.snd.snd.snd.snd.snd.snd.fst, x.snd.snd.snd.snd.snd.snd.snd.snd.snd.snd.snd.snd.snd.snd.snd.snd.snd.snd.snd.snd.snd.snd.snd.fst, ()))
 ) (100000000000000000000) (x)
def f11.L2 (x : Int × Int × List (Int × Int × Int × Int) × Int × Int × Int × Int × Int × Int × Int × Int × Int × Int × Int × Int × Int × Int × Int × Int × Int × Int × List Int × List Int × List (Int × Int × Int × Int × Int × Int × Int × Int × Int × Int × Int) × List (Int × Int × Int × Int) × Unit) : Option (Int × Int × Int × Int × Int × Int × Int × Int × List Int × List (Int × Int × Int × Int × Int × Int × Int × Int × Int × Int × Int) × List (Int × Int × Int × Int) × Unit) :=
 it (X := Int × Int × List (Int × Int × Int × Int) × Int × Int × Int × Int × Int × Int × Int × Int × Int × Int × Int × Int × Int × Int × Int × Int × Int × Int × List Int × List Int × List (Int × Int × Int × Int × Int × Int × Int × Int × Int × Int × Int) × List (Int × Int × Int × Int) × Unit) (fun rec x =>
 bif Decidable.decide (x.snd.snd.snd.snd.fst < 384) then
  bif inRange x.snd.snd.snd.snd.fst (List.length x.snd.snd.snd.snd.snd.snd.snd.snd.snd.snd.snd.snd.snd.snd.snd.snd.snd.snd.snd.snd.snd.snd.fst) then
   Option.bind (f24 (Go.IntKind.wrap Go.IntKind.i64 (List.getD x.snd.snd.snd.snd.snd.snd.snd.snd.snd.snd.snd.snd.snd.snd.snd.snd.snd.snd.snd.snd.snd.snd.fst (Int.toNat x.snd.snd.snd.snd.fst) 0))) fun y0 =>
    bif y0.fst then
     bif Decidable.decide (List.length x.snd.snd.snd.snd.snd.snd.snd.snd.snd.snd.snd.snd.snd.snd.snd.snd.snd.snd.snd.snd.snd.fst + 1 ≤ limit 8) then
      rec (x.fst, x.snd.fst, x.snd.snd.fst, x.snd.snd.snd.fst, Go.IntKind.wrap Go.IntKind.i64 (x.snd.snd.snd.snd.fst + 1), x.snd.snd.snd.snd.snd.fst, x.snd.snd.snd.snd.snd.snd.fst, x.snd.snd.snd.snd.snd.snd.snd.fst, x.snd.snd.snd.snd.snd.snd.snd.snd.fst, x.snd.snd.snd.snd.snd.snd.snd.snd.snd.fst, x.snd.snd.snd.snd.snd.snd.snd.snd.snd.snd.fst, x.snd.snd.snd.snd.snd.snd.snd.snd.snd.snd.snd.fst, x.snd.snd.snd.snd.snd.snd.snd.snd.snd.snd.snd.snd.fst, x.snd.snd.snd.snd.snd.snd.snd.snd.snd.snd.snd.snd.snd.fst, x.snd.snd.snd.snd.snd.snd.snd.snd.snd.snd.snd.snd.snd.snd.fst, x.snd.snd.snd.snd.snd.snd.snd.snd.snd.snd.snd.snd.snd.snd.snd.fst, x.snd.snd.snd.snd.snd.snd.snd.snd.snd.snd.snd.snd.snd.snd.snd.snd.fst, x.snd.snd.snd.snd.snd.snd.snd.snd.snd.snd.snd.snd.snd.snd.snd.snd.snd.fst, x.snd.snd.snd.snd.snd.snd.snd.snd.snd.snd.snd.snd.snd.snd.snd.snd.snd.snd.fst, x.snd.snd.snd.snd.snd.snd.snd.snd.snd.snd.snd.snd.snd.snd.snd.snd.snd.snd.snd.fst, x.snd.snd.snd.snd.snd.snd.snd.snd.snd.snd.snd.snd.snd.snd.snd.snd.snd.snd.snd.snd.fst, x.snd.snd.snd.snd.snd.snd.snd.snd.snd.snd.snd.snd.snd.snd.snd.snd.snd.snd.snd.snd.snd.fst ++ [x.snd.snd.snd.snd.fst], x.snd.snd.snd.snd.snd.snd.snd.snd.snd.snd.snd.snd.snd.snd.snd.snd.snd.snd.snd.snd.snd.snd.fst, x.snd.snd.snd.snd.snd.snd.snd.snd.snd.snd.snd.snd.snd.snd.snd.snd.snd.snd.snd.snd.snd.snd.snd.fst, x.snd.snd.snd.snd.snd.snd.snd.snd.snd.snd.snd.snd.snd.snd.snd.snd.snd.snd.snd.snd.snd.snd.snd.snd.fst, ())
     else
      none
    else
     rec (x.fst, x.snd.fst, x.snd.snd.fst, x.snd.snd.snd.fst, Go.IntKind.wrap Go.IntKind.i64 (x.snd.snd.snd.snd.fst + 1), x.snd.snd.snd.snd.snd.fst, x.snd.snd.snd.snd.snd.snd.fst, x.snd.snd.snd.snd.snd.snd.snd.fst, x.snd.snd.snd.snd.snd.snd.snd.snd.fst, x.snd.snd.snd.snd.snd.snd.snd.snd.snd.fst, x.snd.snd.snd.snd.snd.snd.snd.snd.snd.snd.fst, x.snd.snd.snd.snd.snd.snd.snd.snd.snd.snd.snd.fst, x.snd.snd.snd.snd.snd.snd.snd.snd.snd.snd.snd.snd.fst, x.snd.snd.snd.snd.snd.snd.snd.snd.snd.snd.snd.snd.snd.fst, x.snd.snd.snd.snd.snd.snd.snd.snd.snd.snd.snd.snd.snd.snd.fst, x.snd.snd.snd.snd.snd.snd.snd.snd.snd.snd.snd.snd.snd.snd.snd.fst, x.snd.snd.snd.snd.snd.snd.snd.snd.snd.snd.snd.snd.snd.snd.snd.snd.fst, x.snd.snd.snd.snd.snd.snd.snd.snd.snd.snd.snd.snd.snd.snd.snd.snd.snd.fst, x.snd.snd.snd.snd.snd.snd.snd.snd.snd.snd.snd.snd.snd.snd.snd.snd.snd.snd.fst, x.snd.snd.snd.snd.snd.snd.snd.snd.snd.snd.snd.snd.snd.snd.snd.snd.snd.snd.snd.fst, x.snd.snd.snd.snd.snd.snd.snd.snd.snd.snd.snd.snd.snd.snd.snd.snd.snd.snd.snd.snd.fst, x.snd.snd.snd.snd.snd.snd.snd.snd.snd.snd.snd.snd.snd.snd.snd.snd.snd.snd.snd.snd.snd.fst, x.snd.snd.snd.snd.snd.snd.snd.snd.snd.snd.snd.snd.snd.snd.snd.snd.snd.snd.snd.snd.snd.snd.fst, x.snd.snd.snd.snd.snd.snd.snd.snd.snd.snd.snd.snd.snd.snd.snd.snd.snd.snd.snd.snd.snd.snd.snd.fst, x.snd.snd.snd.snd.snd.snd.snd.snd.snd.snd.snd.snd.snd.snd.snd.snd.snd.snd.snd.snd.snd.snd.snd.snd.fst, ())
  else
   none
 else
  Option.bind (f12 x.fst 4) fun y1 =>
   Option.bind (f12 x.snd.fst (↑(List.length x.snd.snd.snd.snd.snd.snd.snd.snd.snd.snd.snd.snd.snd.snd.snd.snd.snd.snd.snd.snd.snd.fst) : Int)) fun y2 =>
    bif inRange y2.fst (List.length x.snd.snd.snd.snd.snd.snd.snd.snd.snd.snd.snd.snd.snd.snd.snd.snd.snd.snd.snd.snd.snd.fst) then
     Option.bind (α := Int × Int × List (Int × Int × Int × Int) × Int × Int × Int × Int × Int × Int × Int × Int × Int × Int × Int × Int × Int × Int × Int × Int × Int × Int × List Int × List Int × List (Int × Int × Int × Int × Int × Int × Int × Int × Int × Int × Int) × List (Int × Int × Int × Int) × Unit ⊕ Int × Int × Int × Int × Int × Int × Int × Int × List Int × List (Int × Int × Int × Int × Int × Int × Int × Int × Int × Int × Int) × List (Int × Int × Int × Int) × Unit) (
      bif Int.tmod x.snd.fst 3 == 0 then
       Option.bind (f17 x.snd.snd.snd.snd.snd.snd.snd.snd.snd.snd.snd.snd.snd.snd.snd.snd.snd.snd.snd.snd.snd.snd.fst 5) fun y3 =>
        bif Decidable.decide (y3.fst ≥ 0) then
         Option.bind (f17 x.snd.snd.snd.snd.snd.snd.snd.snd.snd.snd.snd.snd.snd.snd.snd.snd.snd.snd.snd.snd.snd.snd.fst 5) fun y4 =>
          some (Sum.inl (y1.fst, x.snd.fst, x.snd.snd.fst, x.snd.snd.snd.fst, y4.fst, x.snd.snd.snd.snd.snd.fst, x.snd.snd.snd.snd.snd.snd.fst, x.snd.snd.snd.snd.snd.snd.snd.fst, x.snd.snd.snd.snd.snd.snd.snd.snd.fst, x.snd.snd.snd.snd.snd.snd.snd.snd.snd.fst, x.snd.snd.snd.snd.snd.snd.snd.snd.snd.snd.fst, x.snd.snd.snd.snd.snd.snd.snd.snd.snd.snd.snd.fst, x.snd.snd.snd.snd.snd.snd.snd.snd.snd.snd.snd.snd.fst, x.snd.snd.snd.snd.snd.snd.snd.snd.snd.snd.snd.snd.snd.fst, x.snd.snd.snd.snd.snd.snd.snd.snd.snd.snd.snd.snd.snd.snd.fst, x.snd.snd.snd.snd.snd.snd.snd.snd.snd.snd.snd.snd.snd.snd.snd.fst, x.snd.snd.snd.snd.snd.snd.snd.snd.snd.snd.snd.snd.snd.snd.snd.snd.fst, x.snd.snd.snd.snd.snd.snd.snd.snd.snd.snd.snd.snd.snd.snd.snd.snd.snd.fst, x.snd.snd.snd.snd.snd.snd.snd.snd.snd.snd.snd.snd.snd.snd.snd.snd.snd.snd.fst, x.snd.snd.snd.snd.snd.snd.snd.snd.snd.snd.snd.snd.snd.snd.snd.snd.snd.snd.snd.fst, x.snd.snd.snd.snd.snd.snd.snd.snd.snd.snd.snd.snd.snd.snd.snd.snd.snd.snd.snd.snd.fst, x.snd.snd.snd.snd.snd.snd.snd.snd.snd.snd.snd.snd.snd.snd.snd.snd.snd.snd.snd.snd.snd.fst, x.snd.snd.snd.snd.snd.snd.snd.snd.snd.snd.snd.snd.snd.snd.snd.snd.snd.snd.snd.snd.snd.snd.fst, x.snd.snd.snd.snd.snd.snd.snd.snd.snd.snd.snd.snd.snd.snd.snd.snd.snd.snd.snd.snd.snd.snd.snd.fst, x.snd.snd.snd.snd.snd.snd.snd.snd.snd.snd.snd.snd.snd.snd.snd.snd.snd.snd.snd.snd.snd.snd.snd.snd.fst, ()))
        else
         some (Sum.inl (y1.fst, x.snd.fst, x.snd.snd.fst, x.snd.snd.snd.fst, List.getD x.snd.snd.snd.snd.snd.snd.snd.snd.snd.snd.snd.snd.snd.snd.snd.snd.snd.snd.snd.snd.snd.fst (Int.toNat y2.fst) 0, x.snd.snd.snd.snd.snd.fst, x.snd.snd.snd.snd.snd.snd.fst, x.snd.snd.snd.snd.snd.snd.snd.fst, x.snd.snd.snd.snd.snd.snd.snd.snd.fst, x.snd.snd.snd.snd.snd.snd.snd.snd.snd.fst, x.snd.snd.snd.snd.snd.snd.snd.snd.snd.snd.fst, x.snd.snd.snd.snd.snd.snd.snd.snd.snd.snd.snd.fst, x.snd.snd.snd.snd.snd.snd.snd.snd.snd.snd.snd.snd.fst, x.snd.snd.snd.snd.snd.snd.snd.snd.snd.snd.snd.snd.snd.fst, x.snd.snd.snd.snd.snd.snd.snd.snd.snd.snd.snd.snd.snd.snd.fst, x.snd.snd.snd.snd.snd.snd.snd.snd.snd.snd.snd.snd.snd.snd.snd.fst, x.snd.snd.snd.snd.snd.snd.snd.snd.snd.snd.snd.snd.snd.snd.snd.snd.fst, x.snd.snd.snd.snd.snd.snd.snd.snd.snd.snd.snd.snd.snd.snd.snd.snd.snd.fst, x.snd.snd.snd.snd.snd.snd.snd.snd.snd.snd.snd.snd.snd.snd.snd.snd.snd.snd.fst, x.snd.snd.snd.snd.snd.snd.snd.snd.snd.snd.snd.snd.snd.snd.snd.snd.snd.snd.snd.fst, x.snd.snd.snd.snd.snd.snd.snd.snd.snd.snd.snd.snd.snd.snd.snd.snd.snd.snd.snd.snd.fst, x.snd.snd.snd.snd.snd.snd.snd.snd.snd.snd.snd.snd.snd.snd.snd.snd.snd.snd.snd.snd.snd.fst, x.snd.snd.snd.snd.snd.snd.snd.snd.snd.snd.snd.snd.snd.snd.snd.snd.snd.snd.snd.snd.snd.snd.fst, x.snd.snd.snd.snd.snd.snd.snd.snd.snd.snd.snd.snd.snd.snd.snd.snd.snd.snd.snd.snd.snd.snd.snd.fst, x.snd.snd.snd.snd.snd.snd.snd.snd.snd.snd.snd.snd.snd.snd.snd.snd.snd.snd.snd.snd.snd.snd.snd.snd.fst, ()))
      else
       some (Sum.inl (y1.fst, x.snd.fst, x.snd.snd.fst, x.snd.snd.snd.fst, List.getD x.snd.snd.snd.snd.snd.snd.snd.snd.snd.snd.snd.snd.snd.snd.snd.snd.snd.snd.snd.snd.snd.fst (Int.toNat y2.fst) 0, x.snd.snd.snd.snd.snd.fst, x.snd.snd.snd.snd.snd.snd.fst, x.snd.snd.snd.snd.snd.snd.snd.fst, x.snd.snd.snd.snd.snd.snd.snd.snd.fst, x.snd.snd.snd.snd.snd.snd.snd.snd.snd.fst, x.snd.snd.snd.snd.snd.snd.snd.snd.snd.snd.fst, x.snd.snd.snd.snd.snd.snd.snd.snd.snd.snd.snd.fst, x.snd.snd.snd.snd.snd.snd.snd.snd.snd.snd.snd.snd.fst, x.snd.snd.snd.snd.snd.snd.snd.snd.snd.snd.snd.snd.snd.fst, x.snd.snd.snd.snd.snd.snd.snd.snd.snd.snd.snd.snd.snd.snd.fst, x.snd.snd.snd.snd.snd.snd.snd.snd.snd.snd.snd.snd.snd.snd.snd.fst, x.snd.snd.snd.snd.snd.snd.snd.snd.snd.snd.snd.snd.snd.snd.snd.snd.fst, x.snd.snd.snd.snd.snd.snd.snd.snd.snd.snd.snd.snd.snd.snd.snd.snd.snd.fst, x.snd.snd.snd.snd.snd.snd.snd.snd.snd.snd.snd.snd.snd.snd.snd.snd.snd.snd.fst, x.snd.snd.snd.snd.snd.snd.snd.snd.snd.snd.snd.snd.snd.snd.snd.snd.snd.snd.snd.fst, x.snd.snd.snd.snd.snd.snd.snd.snd.snd.snd.snd.snd.snd.snd.snd.snd.snd.snd.snd.snd.fst, x.snd.snd.snd.snd.snd.snd.snd.snd.snd.snd.snd.snd.snd.snd.snd.snd.snd.snd.snd.snd.snd.fst, x.snd.snd.snd.snd.snd.snd.snd.snd.snd.snd.snd.snd.snd.snd.snd.snd.snd.snd.snd.snd.snd.snd.fst, x.snd.snd.snd.snd.snd.snd.snd.snd.snd.snd.snd.snd.snd.snd.snd.snd.snd.snd.snd.snd.snd.snd.snd.fst, x.snd.snd.snd.snd.snd.snd.snd.snd.snd.snd.snd.snd.snd.snd.snd.snd.snd.snd.snd.snd.snd.snd.snd.snd.fst, ()))
     ) fun y5 =>
      Sum.elim (fun y6 =>
       Option.bind (f25 1) fun y7 =>
        Option.bind (f12 y6.snd.fst y7.snd.snd.snd.snd.snd.snd.fst) fun y8 =>
         Option.bind (f12 y6.snd.fst 32) fun y9 =>
          bif inRange y9.fst (List.length y6.snd.snd.snd.snd.snd.snd.snd.snd.snd.snd.snd.snd.snd.snd.snd.snd.snd.snd.snd.snd.snd.snd.snd.fst) then
           Option.bind (f12 y6.snd.snd.snd.fst 1000) fun y10 =>
            bif inRange y6.fst 4 then
             Option.bind (α := Int × Int × Int × Int × Int × Int × Int × Int × Int × Int × Int × Int × Int × Int × Int × Int × List Int × List (Int × Int × Int × Int × Int × Int × Int × Int × Int × Int × Int) × List (Int × Int × Int × Int) × Unit ⊕ Int × Int × Int × Int × Int × Int × Int × Int × List Int × List (Int × Int × Int × Int × Int × Int × Int × Int × Int × Int × Int) × List (Int × Int × Int × Int) × Unit) (
              let s0 : List (Int × Int × Int × Int × Int × Int × Int × Int × Int × Int × Int) := List.set y6.snd.snd.snd.snd.snd.snd.snd.snd.snd.snd.snd.snd.snd.snd.snd.snd.snd.snd.snd.snd.snd.snd.snd.fst (Int.toNat y9.fst) (y7.fst, y7.snd.fst, y6.fst, Int.tmod y6.snd.snd.snd.snd.fst 24, Go.IntKind.wrap Go.IntKind.i64 (Int.tdiv y6.snd.snd.snd.snd.fst 24), Go.IntKind.wrap Go.IntKind.i64 (1 + y8.fst), y7.snd.snd.snd.snd.snd.snd.fst, y7.snd.snd.snd.snd.snd.snd.snd.fst, y7.snd.snd.snd.snd.snd.snd.snd.snd.fst, y7.snd.snd.snd.snd.snd.snd.snd.snd.snd.fst, y7.snd.snd.snd.snd.snd.snd.snd.snd.snd.snd.fst)
              f11.L1 ((y6.fst, y6.snd.snd.fst, y6.snd.snd.snd.snd.fst, 0, y6.snd.snd.snd.snd.snd.fst, y6.snd.snd.snd.snd.snd.snd.fst, y6.snd.snd.snd.snd.snd.snd.snd.fst, y6.snd.snd.snd.snd.snd.snd.snd.snd.fst, y6.snd.snd.snd.snd.snd.snd.snd.snd.snd.fst, y6.snd.snd.snd.snd.snd.snd.snd.snd.snd.snd.fst, y6.snd.snd.snd.snd.snd.snd.snd.snd.snd.snd.snd.fst, y6.snd.snd.snd.snd.snd.snd.snd.snd.snd.snd.snd.snd.fst, y6.snd.snd.snd.snd.snd.snd.snd.snd.snd.snd.snd.snd.snd.fst, y6.snd.snd.snd.snd.snd.snd.snd.snd.snd.snd.snd.snd.snd.snd.fst, y6.snd.snd.snd.snd.snd.snd.snd.snd.snd.snd.snd.snd.snd.snd.snd.fst, y6.snd.snd.snd.snd.snd.snd.snd.snd.snd.snd.snd.snd.snd.snd.snd.snd.fst, if Int.toNat y6.fst = 0 / 1 then y10.fst else y6.snd.snd.snd.snd.snd.snd.snd.snd.snd.snd.snd.snd.snd.snd.snd.snd.snd.fst, if Int.toNat y6.fst = (0 + 1) / 1 then y10.fst else y6.snd.snd.snd.snd.snd.snd.snd.snd.snd.snd.snd.snd.snd.snd.snd.snd.snd.snd.fst, if Int.toNat y6.fst = (0 + 1 + 1) / 1 then y10.fst else y6.snd.snd.snd.snd.snd.snd.snd.snd.snd.snd.snd.snd.snd.snd.snd.snd.snd.snd.snd.fst, if Int.toNat y6.fst = (0 + 1 + 1 + 1) / 1 then y10.fst else y6.snd.snd.snd.snd.snd.snd.snd.snd.snd.snd.snd.snd.snd.snd.snd.snd.snd.snd.snd.snd.fst, y6.snd.snd.snd.snd.snd.snd.snd.snd.snd.snd.snd.snd.snd.snd.snd.snd.snd.snd.snd.snd.snd.fst, y6.snd.snd.snd.snd.snd.snd.snd.snd.snd.snd.snd.snd.snd.snd.snd.snd.snd.snd.snd.snd.snd.snd.fst, s0, y6.snd.snd.snd.snd.snd.snd.snd.snd.snd.snd.snd.snd.snd.snd.snd.snd.snd.snd.snd.snd.snd.snd.snd.snd.fst, ()))
             ) fun y11 =>
              Sum.elim (fun y12 =>
               some ((y12.snd.snd.snd.snd.snd.snd.snd.snd.fst, y12.snd.snd.snd.snd.snd.snd.snd.snd.snd.fst, y12.snd.snd.snd.snd.snd.snd.snd.snd.snd.snd.fst, y12.snd.snd.snd.snd.snd.snd.snd.snd.snd.snd.snd.fst, y12.snd.snd.snd.snd.snd.snd.snd.snd.snd.snd.snd.snd.fst, y12.snd.snd.snd.snd.snd.snd.snd.snd.snd.snd.snd.snd.snd.fst, y12.snd.snd.snd.snd.snd.snd.snd.snd.snd.snd.snd.snd.snd.snd.fst, y12.snd.snd.snd.snd.snd.snd.snd.snd.snd.snd.snd.snd.snd.snd.snd.fst, y12.snd.snd.snd.snd.snd.snd.snd.snd.snd.snd.snd.snd.snd.snd.snd.snd.fst, y12.snd.snd.snd.snd.snd.snd.snd.snd.snd.snd.snd.snd.snd.snd.snd.snd.snd.fst, y12.snd.snd.snd.snd.snd.snd.snd.snd.snd.snd.snd.snd.snd.snd.snd.snd.snd.snd.fst, ()))
              ) (fun z13 =>
               some (z13)
              ) (y11)
            else
             none
          else
           none
      ) (fun z14 =>
       some (z14)
      ) (y5)
    else
     none
 ) (100000000000000000000) (x)
def f11 (a0 : Int) (a1 : Int) (a2 : Int) (a3 : Int) (a4 : List (Int × Int × Int × Int)) (a5 : Int) : Option (Int × Int × Int × Int × Int × Int × Int × Int × List Int × List (Int × Int × Int × Int × Int × Int × Int × Int × Int × Int × Int) × List (Int × Int × Int × Int) × Unit) :=
 Option.bind (f12 a1 3) fun y0 =>
  Option.bind (f23 a0 (Go.IntKind.wrap Go.IntKind.i64 (1 + y0.fst))) fun y1 =>
   f11.L2 ((a2, a3, a4, a5, 0, 0, 0, 0, 0, 0, 0, 0, 0, a0, 0, Go.IntKind.wrap Go.IntKind.i64 (1 + y0.fst), 0, 0, 0, 0, 0, [], y1.fst, List.replicate 32 (0, 0, 0, 0, 0, 0, 0, 0, 0, 0, 0), List.replicate 40 (0, 0, 0, 0), ()))
def f11.ins : Shape := ⟨[(0, .c (.int .i64)), (1, .c (.int .i64)), (2, .c (.int .i64)), (3, .c (.int .i64)), (4, .c (.row (.prod (.int .i64) (.prod (.int .i64) (.prod (.int .i64) (.int .i64)))))), (5, .c (.int .i64))], []⟩
def f11.outs : List Shape := [⟨[(0, .agg [.int .i64, .int .i64, .int .i64, .int .i64, .own 0, .own 1, .own 2, .int .i64, .int .i64, .int .i64, .int .i64])], [(0, .arr (.int .u8)), (1, .arr (.prod (.int .i64) (.prod (.int .i64) (.prod (.int .i64) (.prod (.int .i64) (.prod (.int .i64) (.prod (.int .i64) (.prod (.int .i64) (.prod (.int .i64) (.prod (.int .i64) (.prod (.int .i64) (.int .i64)))))))))))), (2, .arr (.prod (.int .i64) (.prod (.int .i64) (.prod (.int .i64) (.int .i64)))))]⟩]
def f11.S : FnSpec := ⟨f11.ins, f11.outs, [], fun x => f11 x.1 x.2.1 x.2.2.1 x.2.2.2.1 x.2.2.2.2.1 x.2.2.2.2.2.1⟩
def f11.E (fuel : Nat) : Env := ⟨tis, [(12, f12.S), (24, f24.S), (25, f25.S), (23, f23.S), (17, f17.S), (26, f26.S)], [], [(14, ⟨[(2, .c (.int .i64)), (3, .c (.int .i64)), (4, .c (.row (.prod (.int .i64) (.prod (.int .i64) (.prod (.int .i64) (.int .i64)))))), (5, .c (.int .i64)), (12, .c (.ptr 0 0)), (13, .c (.ptr 1 0)), (14, .c (.own 2)), (16, .c (.int .i64))], [(0, .box [.int .i64, .int .i64, .int .i64, .int .i64, .nils, .nils, .nils, .int .i64, .int .i64, .int .i64, .int .i64]), (1, .box [.int .i64, .int .i64, .int .i64, .int .i64, .own 3, .own 4, .own 5, .int .i64, .int .i64, .int .i64, .int .i64]), (2, .arr (.int .i64)), (3, .arr (.int .u8)), (4, .arr (.prod (.int .i64) (.prod (.int .i64) (.prod (.int .i64) (.prod (.int .i64) (.prod (.int .i64) (.prod (.int .i64) (.prod (.int .i64) (.prod (.int .i64) (.prod (.int .i64) (.prod (.int .i64) (.int .i64)))))))))))), (5, .arr (.prod (.int .i64) (.prod (.int .i64) (.prod (.int .i64) (.int .i64)))))]⟩), (27, ⟨[(2, .c (.int .i64)), (4, .c (.row (.prod (.int .i64) (.prod (.int .i64) (.prod (.int .i64) (.int .i64)))))), (12, .c (.ptr 0 0)), (13, .c (.ptr 1 0)), (14, .c (.own 2)), (16, .c (.int .i64)), (18, .c (.int .i64)), (19, .c (.ptr 3 0)), (20, .c (.int .i64))], [(0, .box [.int .i64, .int .i64, .int .i64, .int .i64, .nils, .nils, .nils, .int .i64, .int .i64, .int .i64, .int .i64]), (1, .box [.int .i64, .int .i64, .int .i64, .int .i64, .own 4, .own 5, .own 6, .int .i64, .int .i64, .int .i64, .int .i64]), (2, .arr (.int .i64)), (3, .box [.int .i64, .int .i64, .int .i64, .int .i64]), (4, .arr (.int .u8)), (5, .arr (.prod (.int .i64) (.prod (.int .i64) (.prod (.int .i64) (.prod (.int .i64) (.prod (.int .i64) (.prod (.int .i64) (.prod (.int .i64) (.prod (.int .i64) (.prod (.int .i64) (.prod (.int .i64) (.int .i64)))))))))))), (6, .arr (.prod (.int .i64) (.prod (.int .i64) (.prod (.int .i64) (.int .i64)))))]⟩), (37, ⟨[(2, .c (.int .i64)), (4, .c (.row (.prod (.int .i64) (.prod (.int .i64) (.prod (.int .i64) (.int .i64)))))), (12, .c (.ptr 0 0)), (13, .c (.ptr 1 0)), (14, .c (.own 2)), (16, .c (.int .i64)), (18, .c (.int .i64)), (19, .c (.ptr 3 0))], [(0, .box [.int .i64, .int .i64, .int .i64, .int .i64, .nils, .nils, .nils, .int .i64, .int .i64, .int .i64, .int .i64]), (1, .box [.int .i64, .int .i64, .int .i64, .int .i64, .own 4, .own 5, .own 6, .int .i64, .int .i64, .int .i64, .int .i64]), (2, .arr (.int .i64)), (3, .box [.int .i64, .int .i64, .int .i64, .int .i64]), (4, .arr (.int .u8)), (5, .arr (.prod (.int .i64) (.prod (.int .i64) (.prod (.int .i64) (.prod (.int .i64) (.prod (.int .i64) (.prod (.int .i64) (.prod (.int .i64) (.prod (.int .i64) (.prod (.int .i64) (.prod (.int .i64) (.int .i64)))))))))))), (6, .arr (.prod (.int .i64) (.prod (.int .i64) (.prod (.int .i64) (.int .i64)))))]⟩), (39, ⟨[(2, .c (.int .i64)), (4, .c (.row (.prod (.int .i64) (.prod (.int .i64) (.prod (.int .i64) (.int .i64)))))), (12, .c (.ptr 0 0)), (13, .c (.ptr 1 0)), (14, .c (.own 2)), (16, .c (.int .i64)), (18, .c (.int .i64)), (19, .c (.ptr 3 0))], [(0, .box [.int .i64, .int .i64, .int .i64, .int .i64, .nils, .nils, .nils, .int .i64, .int .i64, .int .i64, .int .i64]), (1, .box [.int .i64, .int .i64, .int .i64, .int .i64, .own 4, .own 5, .own 6, .int .i64, .int .i64, .int .i64, .int .i64]), (2, .arr (.int .i64)), (3, .box [.int .i64, .int .i64, .int .i64, .int .i64]), (4, .arr (.int .u8)), (5, .arr (.prod (.int .i64) (.prod (.int .i64) (.prod (.int .i64) (.prod (.int .i64) (.prod (.int .i64) (.prod (.int .i64) (.prod (.int .i64) (.prod (.int .i64) (.prod (.int .i64) (.prod (.int .i64) (.int .i64)))))))))))), (6, .arr (.prod (.int .i64) (.prod (.int .i64) (.prod (.int .i64) (.int .i64)))))]⟩), (41, ⟨[(12, .c (.ptr 0 0)), (13, .c (.ptr 1 0))], [(0, .box [.int .i64, .int .i64, .int .i64, .int .i64, .nils, .nils, .nils, .int .i64, .int .i64, .int .i64, .int .i64]), (1, .box [.int .i64, .int .i64, .int .i64, .int .i64, .own 2, .own 3, .own 4, .int .i64, .int .i64, .int .i64, .int .i64]), (2, .arr (.int .u8)), (3, .arr (.prod (.int .i64) (.prod (.int .i64) (.prod (.int .i64) (.prod (.int .i64) (.prod (.int .i64) (.prod (.int .i64) (.prod (.int .i64) (.prod (.int .i64) (.prod (.int .i64) (.prod (.int .i64) (.int .i64)))))))))))), (4, .arr (.prod (.int .i64) (.prod (.int .i64) (.prod (.int .i64) (.int .i64)))))]⟩)], [(6, ⟨[(2, .c (.int .i64)), (3, .c (.int .i64)), (4, .c (.row (.prod (.int .i64) (.prod (.int .i64) (.prod (.int .i64) (.int .i64)))))), (5, .c (.int .i64)), (12, .c (.ptr 0 0)), (13, .c (.ptr 1 0)), (14, .c (.own 2)), (15, .c (.int .i64))], [(0, .box [.int .i64, .int .i64, .int .i64, .int .i64, .nils, .nils, .nils, .int .i64, .int .i64, .int .i64, .int .i64]), (1, .box [.int .i64, .int .i64, .int .i64, .int .i64, .own 3, .own 4, .own 5, .int .i64, .int .i64, .int .i64, .int .i64]), (2, .arr (.int .i64)), (3, .arr (.int .u8)), (4, .arr (.prod (.int .i64) (.prod (.int .i64) (.prod (.int .i64) (.prod (.int .i64) (.prod (.int .i64) (.prod (.int .i64) (.prod (.int .i64) (.prod (.int .i64) (.prod (.int .i64) (.prod (.int .i64) (.int .i64)))))))))))), (5, .arr (.prod (.int .i64) (.prod (.int .i64) (.prod (.int .i64) (.int .i64)))))]⟩), (19, ⟨[(2, .c (.int .i64)), (4, .c (.row (.prod (.int .i64) (.prod (.int .i64) (.prod (.int .i64) (.int .i64)))))), (12, .c (.ptr 0 0)), (13, .c (.ptr 1 0)), (14, .c (.own 2)), (16, .c (.int .i64)), (18, .c (.int .i64))], [(0, .box [.int .i64, .int .i64, .int .i64, .int .i64, .nils, .nils, .nils, .int .i64, .int .i64, .int .i64, .int .i64]), (1, .box [.int .i64, .int .i64, .int .i64, .int .i64, .own 3, .own 4, .own 5, .int .i64, .int .i64, .int .i64, .int .i64]), (2, .arr (.int .i64)), (3, .arr (.int .u8)), (4, .arr (.prod (.int .i64) (.prod (.int .i64) (.prod (.int .i64) (.prod (.int .i64) (.prod (.int .i64) (.prod (.int .i64) (.prod (.int .i64) (.prod (.int .i64) (.prod (.int .i64) (.prod (.int .i64) (.int .i64)))))))))))), (5, .arr (.prod (.int .i64) (.prod (.int .i64) (.prod (.int .i64) (.int .i64)))))]⟩)], [], 0, [], fuel⟩
theorem f11.run : ∀ x, runFn (f11.E 100000000000000000000) Go.Proofs.Try.f11 ((Go.Proofs.Try.f11.body).getD .skip) f11.S x = f11.S.f x := by intro x; kernel_rfl
theorem f11.sound : Sound Go.Proofs.Try.prog 11 f11.S := sound_of_run (fun _ => f11.E 100000000000000000000) (by kernel_rfl) (by kernel_rfl) (by kernel_rfl) orders (fun _ => ⟨tis_ok, EqsOk.nil _, (FnsOk.cons f12.sound (FnsOk.cons f24.sound (FnsOk.cons f25.sound (FnsOk.cons f23.sound (FnsOk.cons f17.sound (FnsOk.cons f26.sound FnsOk.nil))))))⟩) (fun _ => rfl) (by kernel_rfl) (by kernel_rfl) (fun x r h => (f11.run x).trans h)
/-! f44: slices.Clone[[]byte,byte] -/
def f44 (a0 : List Int) : Option (List Int × Unit) := cloneF (.int .u8) 1 a0
def f44.S : FnSpec := ⟨cloneIns (.int .u8), cloneOuts (.int .u8), [], fun x => f44 x.1⟩
def f44.E : Env := ⟨tis, [], [], [], [], [], 0, [], 1⟩
theorem f44.sound : Sound Go.Proofs.Try.prog 44 f44.S := clone_sound (fn := Go.Proofs.Try.f44) (t := 25) (q := 5) (u := 4) (bytes := 1) (i := ty25) f44.E (by kernel_rfl) (by kernel_rfl) (by kernel_rfl) orders (by kernel_rfl) ⟨tis_ok, EqsOk.nil _, FnsOk.nil⟩ rfl (by kernel_rfl) (by kernel_rfl) (by intro l A K; kernel_rfl) (by kernel_rfl) (by intro l; kernel_rfl)
/-! f45: slices.Clone[[]adit/api.Ent,adit/api.Ent] -/
def f45 (a0 : List (Int × Int × Int × Int × Int × Int × Int × Int × Int × Int × Int)) : Option (List (Int × Int × Int × Int × Int × Int × Int × Int × Int × Int × Int) × Unit) := cloneF (.prod (.int .i64) (.prod (.int .i64) (.prod (.int .i64) (.prod (.int .i64) (.prod (.int .i64) (.prod (.int .i64) (.prod (.int .i64) (.prod (.int .i64) (.prod (.int .i64) (.prod (.int .i64) (.int .i64))))))))))) 88 a0
def f45.S : FnSpec := ⟨cloneIns (.prod (.int .i64) (.prod (.int .i64) (.prod (.int .i64) (.prod (.int .i64) (.prod (.int .i64) (.prod (.int .i64) (.prod (.int .i64) (.prod (.int .i64) (.prod (.int .i64) (.prod (.int .i64) (.int .i64))))))))))), cloneOuts (.prod (.int .i64) (.prod (.int .i64) (.prod (.int .i64) (.prod (.int .i64) (.prod (.int .i64) (.prod (.int .i64) (.prod (.int .i64) (.prod (.int .i64) (.prod (.int .i64) (.prod (.int .i64) (.int .i64))))))))))), [], fun x => f45 x.1⟩
def f45.E : Env := ⟨tis, [], [], [], [], [], 0, [], 1⟩
theorem f45.sound : Sound Go.Proofs.Try.prog 45 f45.S := clone_sound (fn := Go.Proofs.Try.f45) (t := 26) (q := 43) (u := 4) (bytes := 88) (i := ty26) f45.E (by kernel_rfl) (by kernel_rfl) (by kernel_rfl) orders (by kernel_rfl) ⟨tis_ok, EqsOk.nil _, FnsOk.nil⟩ rfl (by kernel_rfl) (by kernel_rfl) (by intro l A K; kernel_rfl) (by kernel_rfl) (by intro l; kernel_rfl)
/-! f46: slices.Clone[[]adit/api.Item,adit/api.Item] -/
def f46 (a0 : List (Int × Int × Int × Int)) : Option (List (Int × Int × Int × Int) × Unit) := cloneF (.prod (.int .i64) (.prod (.int .i64) (.prod (.int .i64) (.int .i64)))) 32 a0
def f46.S : FnSpec := ⟨cloneIns (.prod (.int .i64) (.prod (.int .i64) (.prod (.int .i64) (.int .i64)))), cloneOuts (.prod (.int .i64) (.prod (.int .i64) (.prod (.int .i64) (.int .i64)))), [], fun x => f46 x.1⟩
def f46.E : Env := ⟨tis, [], [], [], [], [], 0, [], 1⟩
theorem f46.sound : Sound Go.Proofs.Try.prog 46 f46.S := clone_sound (fn := Go.Proofs.Try.f46) (t := 22) (q := 38) (u := 4) (bytes := 32) (i := ty22) f46.E (by kernel_rfl) (by kernel_rfl) (by kernel_rfl) orders (by kernel_rfl) ⟨tis_ok, EqsOk.nil _, FnsOk.nil⟩ rfl (by kernel_rfl) (by kernel_rfl) (by intro l A K; kernel_rfl) (by kernel_rfl) (by intro l; kernel_rfl)
/-! f27: adit/goods.twin -/
def f27 (a0 : Int) (a1 : Int) (a2 : Int) (a3 : Int) (a4 : List Int) (a5 : List (Int × Int × Int × Int × Int × Int × Int × Int × Int × Int × Int)) (a6 : List (Int × Int × Int × Int)) (a7 : Int) (a8 : Int) (a9 : Int) (a10 : Int) : Option (Int × Int × Int × Int × Int × Int × Int × Int × List Int × List (Int × Int × Int × Int × Int × Int × Int × Int × Int × Int × Int) × List (Int × Int × Int × Int) × Unit) :=
 Option.bind (f44 a4) fun y0 =>
  Option.bind (f45 a5) fun y1 =>
   Option.bind (f46 a6) fun y2 =>
    some ((a0, a1, a2, a3, a7, a8, a9, a10, y0.fst, y1.fst, y2.fst, ()))
def f27.ins : Shape := ⟨[(0, .agg [.int .i64, .int .i64, .int .i64, .int .i64, .row (.int .u8), .row (.prod (.int .i64) (.prod (.int .i64) (.prod (.int .i64) (.prod (.int .i64) (.prod (.int .i64) (.prod (.int .i64) (.prod (.int .i64) (.prod (.int .i64) (.prod (.int .i64) (.prod (.int .i64) (.int .i64))))))))))), .row (.prod (.int .i64) (.prod (.int .i64) (.prod (.int .i64) (.int .i64)))), .int .i64, .int .i64, .int .i64, .int .i64])], []⟩
def f27.outs : List Shape := [⟨[(0, .agg [.int .i64, .int .i64, .int .i64, .int .i64, .own 0, .own 1, .own 2, .int .i64, .int .i64, .int .i64, .int .i64])], [(0, .arr (.int .u8)), (1, .arr (.prod (.int .i64) (.prod (.int .i64) (.prod (.int .i64) (.prod (.int .i64) (.prod (.int .i64) (.prod (.int .i64) (.prod (.int .i64) (.prod (.int .i64) (.prod (.int .i64) (.prod (.int .i64) (.int .i64)))))))))))), (2, .arr (.prod (.int .i64) (.prod (.int .i64) (.prod (.int .i64) (.int .i64)))))]⟩]
def f27.S : FnSpec := ⟨f27.ins, f27.outs, [], fun x => f27 x.1 x.2.1 x.2.2.1 x.2.2.2.1 x.2.2.2.2.1 x.2.2.2.2.2.1 x.2.2.2.2.2.2.1 x.2.2.2.2.2.2.2.1 x.2.2.2.2.2.2.2.2.1 x.2.2.2.2.2.2.2.2.2.1 x.2.2.2.2.2.2.2.2.2.2.1⟩
def f27.E (fuel : Nat) : Env := ⟨tis, [(44, f44.S), (45, f45.S), (46, f46.S)], [], [], [], [], 0, [], fuel⟩
theorem f27.run : ∀ x, runFn (f27.E 100000000000000000000) Go.Proofs.Try.f27 ((Go.Proofs.Try.f27.body).getD .skip) f27.S x = f27.S.f x := by intro x; kernel_rfl
theorem f27.sound : Sound Go.Proofs.Try.prog 27 f27.S := sound_of_run (fun _ => f27.E 100000000000000000000) (by kernel_rfl) (by kernel_rfl) (by kernel_rfl) orders (fun _ => ⟨tis_ok, EqsOk.nil _, (FnsOk.cons f44.sound (FnsOk.cons f45.sound (FnsOk.cons f46.sound FnsOk.nil)))⟩) (fun _ => rfl) (by kernel_rfl) (by kernel_rfl) (fun x r h => (f27.run x).trans h)
/-! f60: adit/ents.rows -/
def f60 (a0 : List (Int × Int × Int × Int × Int × Int × Int × Int × Int × Int × Int)) : Option (List (Int × Int × Int × Int × Int × Int × Int × Int × Int × Int × Int) × Unit) :=
 bif Decidable.decide ((0 : Int) ≤ 0 ∧ 0 ≤ minI (↑(List.length a0) : Int) 32 ∧ minI (↑(List.length a0) : Int) 32 ≤ (↑(List.length a0) : Int)) then
  some ((List.drop 0 (List.take (Int.toNat (minI (↑(List.length a0) : Int) 32)) a0), ()))
 else
  none
def f60.ins : Shape := ⟨[(0, .c (.row (.prod (.int .i64) (.prod (.int .i64) (.prod (.int .i64) (.prod (.int .i64) (.prod (.int .i64) (.prod (.int .i64) (.prod (.int .i64) (.prod (.int .i64) (.prod (.int .i64) (.prod (.int .i64) (.int .i64)))))))))))))], []⟩
def f60.outs : List Shape := [⟨[(0, .c (.row (.prod (.int .i64) (.prod (.int .i64) (.prod (.int .i64) (.prod (.int .i64) (.prod (.int .i64) (.prod (.int .i64) (.prod (.int .i64) (.prod (.int .i64) (.prod (.int .i64) (.prod (.int .i64) (.int .i64)))))))))))))], []⟩]
def f60.S : FnSpec := ⟨f60.ins, f60.outs, [], fun x => f60 x.1⟩
def f60.E (fuel : Nat) : Env := ⟨tis, [], [], [], [], [], 0, [], fuel⟩
theorem f60.run : ∀ x, runFn (f60.E 100000000000000000000) Go.Proofs.Try.f60 ((Go.Proofs.Try.f60.body).getD .skip) f60.S x = f60.S.f x := by intro x; kernel_rfl
theorem f60.sound : Sound Go.Proofs.Try.prog 60 f60.S := sound_of_run (fun _ => f60.E 100000000000000000000) (by kernel_rfl) (by kernel_rfl) (by kernel_rfl) orders (fun _ => ⟨tis_ok, EqsOk.nil _, FnsOk.nil⟩) (fun _ => rfl) (by kernel_rfl) (by kernel_rfl) (fun x r h => (f60.run x).trans h)
/-! f48: adit/ents.Hero$1 -/
def f48 (a0 : Int) (a1 : Int) (a2 : Int) (a3 : Int) (a4 : Int) (a5 : Int) (a6 : Int) (a7 : Int) (a8 : Int) (a9 : Int) (a10 : Int) (a11 : Int) (a12 : Int) : Option (Bool × Unit) :=
 bif a1 == 1 then
  some ((a3 == a12, ()))
 else
  some ((Bool.false, ()))
def f48.ins : Shape := ⟨[(0, .c (.int .i64)), (1, .agg [.int .i64, .int .i64, .int .i64, .int .i64, .int .i64, .int .i64, .int .i64, .int .i64, .int .i64, .int .i64, .int .i64]), (2, .c (.bptr (.int .i64)))], []⟩
def f48.outs : List Shape := [⟨[(0, .c (.bool))], []⟩]
def f48.S : FnSpec := ⟨f48.ins, f48.outs, [], fun x => f48 x.1 x.2.1 x.2.2.1 x.2.2.2.1 x.2.2.2.2.1 x.2.2.2.2.2.1 x.2.2.2.2.2.2.1 x.2.2.2.2.2.2.2.1 x.2.2.2.2.2.2.2.2.1 x.2.2.2.2.2.2.2.2.2.1 x.2.2.2.2.2.2.2.2.2.2.1 x.2.2.2.2.2.2.2.2.2.2.2.1 x.2.2.2.2.2.2.2.2.2.2.2.2.1⟩
def f48.E (fuel : Nat) : Env := ⟨tis, [], [], [], [], [], 0, [], fuel⟩
theorem f48.run : ∀ x, runFn (f48.E 100000000000000000000) Go.Proofs.Try.f48 ((Go.Proofs.Try.f48.body).getD .skip) f48.S x = f48.S.f x := by intro x; kernel_rfl
theorem f48.sound : Sound Go.Proofs.Try.prog 48 f48.S := sound_of_run (fun _ => f48.E 100000000000000000000) (by kernel_rfl) (by kernel_rfl) (by kernel_rfl) orders (fun _ => ⟨tis_ok, EqsOk.nil _, FnsOk.nil⟩) (fun _ => rfl) (by kernel_rfl) (by kernel_rfl) (fun x r h => (f48.run x).trans h)
/-! f47: adit/ents.find -/
def f47.L1 (x : List (Int × Int × Int × Int × Int × Int × Int × Int × Int × Int × Int) × Int × Int × Int × Unit) : Option (Int × Int × Unit) :=
 it (X := List (Int × Int × Int × Int × Int × Int × Int × Int × Int × Int × Int) × Int × Int × Int × Unit) (fun rec x =>
 bif Decidable.decide (x.snd.snd.fst < x.snd.fst) then
  bif inRange x.snd.snd.fst (List.length x.fst) then
   Option.bind (f48 x.snd.snd.fst (List.getD x.fst (Int.toNat x.snd.snd.fst) (0, 0, 0, 0, 0, 0, 0, 0, 0, 0, 0)).fst (List.getD x.fst (Int.toNat x.snd.snd.fst) (0, 0, 0, 0, 0, 0, 0, 0, 0, 0, 0)).snd.fst (List.getD x.fst (Int.toNat x.snd.snd.fst) (0, 0, 0, 0, 0, 0, 0, 0, 0, 0, 0)).snd.snd.fst (List.getD x.fst (Int.toNat x.snd.snd.fst) (0, 0, 0, 0, 0, 0, 0, 0, 0, 0, 0)).snd.snd.snd.fst (List.getD x.fst (Int.toNat x.snd.snd.fst) (0, 0, 0, 0, 0, 0, 0, 0, 0, 0, 0)).snd.snd.snd.snd.fst (List.getD x.fst (Int.toNat x.snd.snd.fst) (0, 0, 0, 0, 0, 0, 0, 0, 0, 0, 0)).snd.snd.snd.snd.snd.fst (List.getD x.fst (Int.toNat x.snd.snd.fst) (0, 0, 0, 0, 0, 0, 0, 0, 0, 0, 0)).snd.snd.snd.snd.snd.snd.fst (List.getD x.fst (Int.toNat x.snd.snd.fst) (0, 0, 0, 0, 0, 0, 0, 0, 0, 0, 0)).snd.snd.snd.snd.snd.snd.snd.fst (List.getD x.fst (Int.toNat x.snd.snd.fst) (0, 0, 0, 0, 0, 0, 0, 0, 0, 0, 0)).snd.snd.snd.snd.snd.snd.snd.snd.fst (List.getD x.fst (Int.toNat x.snd.snd.fst) (0, 0, 0, 0, 0, 0, 0, 0, 0, 0, 0)).snd.snd.snd.snd.snd.snd.snd.snd.snd.fst (List.getD x.fst (Int.toNat x.snd.snd.fst) (0, 0, 0, 0, 0, 0, 0, 0, 0, 0, 0)).snd.snd.snd.snd.snd.snd.snd.snd.snd.snd x.snd.snd.snd.fst) fun y0 =>
    bif y0.fst then
     some ((x.snd.snd.fst, x.snd.snd.snd.fst, ()))
    else
     rec (x.fst, x.snd.fst, Go.IntKind.wrap Go.IntKind.i64 (x.snd.snd.fst + 1), x.snd.snd.snd.fst, ())
  else
   none
 else
  some ((-1, x.snd.snd.snd.fst, ()))
 ) (100000000000000000000) (x)
def f47 (a0 : List (Int × Int × Int × Int × Int × Int × Int × Int × Int × Int × Int)) (a1 : Int) : Option (Int × Int × Unit) :=
 Option.bind (f60 a0) fun y0 =>
  f47.L1 ((y0.fst, (↑(List.length y0.fst) : Int), 0, a1, ()))
def f47.ins : Shape := ⟨[(0, .c (.row (.prod (.int .i64) (.prod (.int .i64) (.prod (.int .i64) (.prod (.int .i64) (.prod (.int .i64) (.prod (.int .i64) (.prod (.int .i64) (.prod (.int .i64) (.prod (.int .i64) (.prod (.int .i64) (.int .i64))))))))))))), (1, .c (.fn 48 [0]))], [(0, .box [.int .i64])]⟩
def f47.outs : List Shape := [⟨[(0, .c (.int .i64))], [(0, .box [.int .i64])]⟩]
def f47.S : FnSpec := ⟨f47.ins, f47.outs, [0], fun x => f47 x.1 x.2.1⟩
def f47.E (fuel : Nat) : Env := ⟨tis, [(60, f60.S), (48, f48.S)], [], [], [(3, ⟨[(1, .c (.fn 48 [0])), (8, .c (.row (.prod (.int .i64) (.prod (.int .i64) (.prod (.int .i64) (.prod (.int .i64) (.prod (.int .i64) (.prod (.int .i64) (.prod (.int .i64) (.prod (.int .i64) (.prod (.int .i64) (.prod (.int .i64) (.int .i64))))))))))))), (9, .c (.int .i64)), (10, .c (.int .i64))], [(0, .box [.int .i64])]⟩)], [], 1, [0], fuel⟩
theorem f47.run : ∀ x, runFn (f47.E 100000000000000000000) Go.Proofs.Try.f47 ((Go.Proofs.Try.f47.body).getD .skip) f47.S x = f47.S.f x := by intro x; kernel_rfl
theorem f47.sound : Sound Go.Proofs.Try.prog 47 f47.S := sound_of_run (fun _ => f47.E 100000000000000000000) (by kernel_rfl) (by kernel_rfl) (by kernel_rfl) orders (fun _ => ⟨tis_ok, EqsOk.nil _, (FnsOk.cons f60.sound (FnsOk.cons f48.sound FnsOk.nil))⟩) (fun _ => rfl) (by kernel_rfl) (by kernel_rfl) (fun x r h => (f47.run x).trans h)
/-! f28: adit/ents.Hero -/
def f28 (a0 : List (Int × Int × Int × Int × Int × Int × Int × Int × Int × Int × Int)) (a1 : Int) : Option (Int × Unit) :=
 Option.bind (f47 a0 a1) fun y0 =>
  some ((y0.fst, ()))
def f28.ins : Shape := ⟨[(0, .c (.row (.prod (.int .i64) (.prod (.int .i64) (.prod (.int .i64) (.prod (.int .i64) (.prod (.int .i64) (.prod (.int .i64) (.prod (.int .i64) (.prod (.int .i64) (.prod (.int .i64) (.prod (.int .i64) (.int .i64))))))))))))), (1, .c (.int .i64))], []⟩
def f28.outs : List Shape := [⟨[(0, .c (.int .i64))], []⟩]
def f28.S : FnSpec := ⟨f28.ins, f28.outs, [], fun x => f28 x.1 x.2.1⟩
def f28.E (fuel : Nat) : Env := ⟨tis, [(47, f47.S)], [], [], [], [], 0, [], fuel⟩
theorem f28.run : ∀ x, runFn (f28.E 100000000000000000000) Go.Proofs.Try.f28 ((Go.Proofs.Try.f28.body).getD .skip) f28.S x = f28.S.f x := by intro x; kernel_rfl
theorem f28.sound : Sound Go.Proofs.Try.prog 28 f28.S := sound_of_run (fun _ => f28.E 100000000000000000000) (by kernel_rfl) (by kernel_rfl) (by kernel_rfl) orders (fun _ => ⟨tis_ok, EqsOk.nil _, (FnsOk.cons f47.sound FnsOk.nil)⟩) (fun _ => rfl) (by kernel_rfl) (by kernel_rfl) (fun x r h => (f28.run x).trans h)
/-! f54: adit/goods.find$1 -/
def f54 (a0 : Int) (a1 : Int) (a2 : Int) (a3 : Int) (a4 : Int) (a5 : Int) (a6 : Int) : Option (Bool × Unit) :=
 bif a0 != 0 then
  bif a1 == a4 then
   bif a2 == a5 then
    some ((a3 == a6, ()))
   else
    some ((Bool.false, ()))
  else
   some ((Bool.false, ()))
 else
  some ((Bool.false, ()))
def f54.ins : Shape := ⟨[(0, .agg [.int .i64, .int .i64, .int .i64, .int .i64]), (1, .c (.bptr (.int .i64))), (2, .c (.bptr (.int .i64))), (3, .c (.bptr (.int .i64)))], []⟩
def f54.outs : List Shape := [⟨[(0, .c (.bool))], []⟩]
def f54.S : FnSpec := ⟨f54.ins, f54.outs, [], fun x => f54 x.1 x.2.1 x.2.2.1 x.2.2.2.1 x.2.2.2.2.1 x.2.2.2.2.2.1 x.2.2.2.2.2.2.1⟩
def f54.E (fuel : Nat) : Env := ⟨tis, [], [], [], [], [], 0, [], fuel⟩
theorem f54.run : ∀ x, runFn (f54.E 100000000000000000000) Go.Proofs.Try.f54 ((Go.Proofs.Try.f54.body).getD .skip) f54.S x = f54.S.f x := by intro x; kernel_rfl
theorem f54.sound : Sound Go.Proofs.Try.prog 54 f54.S := sound_of_run (fun _ => f54.E 100000000000000000000) (by kernel_rfl) (by kernel_rfl) (by kernel_rfl) orders (fun _ => ⟨tis_ok, EqsOk.nil _, FnsOk.nil⟩) (fun _ => rfl) (by kernel_rfl) (by kernel_rfl) (fun x r h => (f54.run x).trans h)
/-! f53: slices.IndexFunc[[]adit/api.Item,adit/api.Item] -/
def f53.L1 (x : List (Int × Int × Int × Int) × Int × Int × Int × Int × Int × Unit) : Option (Int × Int × Int × Int × Unit) :=
 it (X := List (Int × Int × Int × Int) × Int × Int × Int × Int × Int × Unit) (fun rec x =>
 bif Decidable.decide (x.snd.snd.fst < x.snd.fst) then
  bif inRange x.snd.snd.fst (List.length x.fst) then
   Option.bind (f54 (List.getD x.fst (Int.toNat x.snd.snd.fst) (0, 0, 0, 0)).fst (List.getD x.fst (Int.toNat x.snd.snd.fst) (0, 0, 0, 0)).snd.fst (List.getD x.fst (Int.toNat x.snd.snd.fst) (0, 0, 0, 0)).snd.snd.fst (List.getD x.fst (Int.toNat x.snd.snd.fst) (0, 0, 0, 0)).snd.snd.snd x.snd.snd.snd.fst x.snd.snd.snd.snd.fst x.snd.snd.snd.snd.snd.fst) fun y0 =>
    bif y0.fst then
     some ((x.snd.snd.fst, x.snd.snd.snd.fst, x.snd.snd.snd.snd.fst, x.snd.snd.snd.snd.snd.fst, ()))
    else
     rec (x.fst, x.snd.fst, Go.IntKind.wrap Go.IntKind.i64 (x.snd.snd.fst + 1), x.snd.snd.snd.fst, x.snd.snd.snd.snd.fst, x.snd.snd.snd.snd.snd.fst, ())
  else
   none
 else
  some ((-1, x.snd.snd.snd.fst, x.snd.snd.snd.snd.fst, x.snd.snd.snd.snd.snd.fst, ()))
 ) (100000000000000000000) (x)
def f53 (a0 : List (Int × Int × Int × Int)) (a1 : Int) (a2 : Int) (a3 : Int) : Option (Int × Int × Int × Int × Unit) :=
 f53.L1 ((a0, (↑(List.length a0) : Int), 0, a1, a2, a3, ()))
def f53.ins : Shape := ⟨[(0, .c (.row (.prod (.int .i64) (.prod (.int .i64) (.prod (.int .i64) (.int .i64)))))), (1, .c (.fn 54 [0, 1, 2]))], [(0, .box [.int .i64]), (1, .box [.int .i64]), (2, .box [.int .i64])]⟩
def f53.outs : List Shape := [⟨[(0, .c (.int .i64))], [(0, .box [.int .i64]), (1, .box [.int .i64]), (2, .box [.int .i64])]⟩]
def f53.S : FnSpec := ⟨f53.ins, f53.outs, [0, 1, 2], fun x => f53 x.1 x.2.1 x.2.2.1 x.2.2.2.1⟩
def f53.E (fuel : Nat) : Env := ⟨tis, [(54, f54.S)], [], [], [(3, ⟨[(0, .c (.row (.prod (.int .i64) (.prod (.int .i64) (.prod (.int .i64) (.int .i64)))))), (1, .c (.fn 54 [0, 1, 2])), (7, .c (.int .i64)), (8, .c (.int .i64))], [(0, .box [.int .i64]), (1, .box [.int .i64]), (2, .box [.int .i64])]⟩)], [], 3, [0, 1, 2], fuel⟩
theorem f53.run : ∀ x, runFn (f53.E 100000000000000000000) Go.Proofs.Try.f53 ((Go.Proofs.Try.f53.body).getD .skip) f53.S x = f53.S.f x := by intro x; kernel_rfl
theorem f53.sound : Sound Go.Proofs.Try.prog 53 f53.S := sound_of_run (fun _ => f53.E 100000000000000000000) (by kernel_rfl) (by kernel_rfl) (by kernel_rfl) orders (fun _ => ⟨tis_ok, EqsOk.nil _, (FnsOk.cons f54.sound FnsOk.nil)⟩) (fun _ => rfl) (by kernel_rfl) (by kernel_rfl) (fun x r h => (f53.run x).trans h)
/-! f32: adit/goods.find -/
def f32 (a0 : Int) (a1 : Int) (a2 : Int) (a3 : Int) (a4 : List Int) (a5 : List (Int × Int × Int × Int × Int × Int × Int × Int × Int × Int × Int)) (a6 : List (Int × Int × Int × Int)) (a7 : Int) (a8 : Int) (a9 : Int) (a10 : Int) (a11 : Int) (a12 : Int) (a13 : Int) : Option (Int × Unit) :=
 Option.bind (f53 a6 a11 a12 a13) fun y0 =>
  some ((y0.fst, ()))
def f32.ins : Shape := ⟨[(0, .agg [.int .i64, .int .i64, .int .i64, .int .i64, .row (.int .u8), .row (.prod (.int .i64) (.prod (.int .i64) (.prod (.int .i64) (.prod (.int .i64) (.prod (.int .i64) (.prod (.int .i64) (.prod (.int .i64) (.prod (.int .i64) (.prod (.int .i64) (.prod (.int .i64) (.int .i64))))))))))), .row (.prod (.int .i64) (.prod (.int .i64) (.prod (.int .i64) (.int .i64)))), .int .i64, .int .i64, .int .i64, .int .i64]), (1, .c (.int .i64)), (2, .c (.int .i64)), (3, .c (.int .i64))], []⟩
def f32.outs : List Shape := [⟨[(0, .c (.int .i64))], []⟩]
def f32.S : FnSpec := ⟨f32.ins, f32.outs, [], fun x => f32 x.1 x.2.1 x.2.2.1 x.2.2.2.1 x.2.2.2.2.1 x.2.2.2.2.2.1 x.2.2.2.2.2.2.1 x.2.2.2.2.2.2.2.1 x.2.2.2.2.2.2.2.2.1 x.2.2.2.2.2.2.2.2.2.1 x.2.2.2.2.2.2.2.2.2.2.1 x.2.2.2.2.2.2.2.2.2.2.2.1 x.2.2.2.2.2.2.2.2.2.2.2.2.1 x.2.2.2.2.2.2.2.2.2.2.2.2.2.1⟩
def f32.E (fuel : Nat) : Env := ⟨tis, [(53, f53.S)], [], [], [], [], 0, [], fuel⟩
theorem f32.run : ∀ x, runFn (f32.E 100000000000000000000) Go.Proofs.Try.f32 ((Go.Proofs.Try.f32.body).getD .skip) f32.S x = f32.S.f x := by intro x; kernel_rfl
theorem f32.sound : Sound Go.Proofs.Try.prog 32 f32.S := sound_of_run (fun _ => f32.E 100000000000000000000) (by kernel_rfl) (by kernel_rfl) (by kernel_rfl) orders (fun _ => ⟨tis_ok, EqsOk.nil _, (FnsOk.cons f53.sound FnsOk.nil)⟩) (fun _ => rfl) (by kernel_rfl) (by kernel_rfl) (fun x r h => (f32.run x).trans h)
/-! f66: adit/goods.empty$1 -/
def f66 (a0 : Int) : Option (Bool × Unit) :=
 some ((Decidable.decide (a0 < 0), ()))
def f66.ins : Shape := ⟨[(0, .c (.int .i64))], []⟩
def f66.outs : List Shape := [⟨[(0, .c (.bool))], []⟩]
def f66.S : FnSpec := ⟨f66.ins, f66.outs, [], fun x => f66 x.1⟩
def f66.E (fuel : Nat) : Env := ⟨tis, [], [], [], [], [], 0, [], fuel⟩
theorem f66.run : ∀ x, runFn (f66.E 100000000000000000000) Go.Proofs.Try.f66 ((Go.Proofs.Try.f66.body).getD .skip) f66.S x = f66.S.f x := by intro x; kernel_rfl
theorem f66.sound : Sound Go.Proofs.Try.prog 66 f66.S := sound_of_run (fun _ => f66.E 100000000000000000000) (by kernel_rfl) (by kernel_rfl) (by kernel_rfl) orders (fun _ => ⟨tis_ok, EqsOk.nil _, FnsOk.nil⟩) (fun _ => rfl) (by kernel_rfl) (by kernel_rfl) (fun x r h => (f66.run x).trans h)
/-! f50: adit/goods.slot -/
def f50.L1 (x : Int × Int × Int × Int × Int × Int × List Int × List (Int × Int × Int × Int × Int × Int × Int × Int × Int × Int × Int) × List (Int × Int × Int × Int) × Int × Int × Int × Int × Unit) : Option (Int × Unit) :=
 it (X := Int × Int × Int × Int × Int × Int × List Int × List (Int × Int × Int × Int × Int × Int × Int × Int × Int × Int × Int) × List (Int × Int × Int × Int) × Int × Int × Int × Int × Unit) (fun rec x =>
 bif Decidable.decide (x.snd.fst < 4) then
  Option.bind (f32 x.snd.snd.fst x.snd.snd.snd.fst x.snd.snd.snd.snd.fst x.snd.snd.snd.snd.snd.fst x.snd.snd.snd.snd.snd.snd.fst x.snd.snd.snd.snd.snd.snd.snd.fst x.snd.snd.snd.snd.snd.snd.snd.snd.fst x.snd.snd.snd.snd.snd.snd.snd.snd.snd.fst x.snd.snd.snd.snd.snd.snd.snd.snd.snd.snd.fst x.snd.snd.snd.snd.snd.snd.snd.snd.snd.snd.snd.fst x.snd.snd.snd.snd.snd.snd.snd.snd.snd.snd.snd.snd.fst 2 x.fst x.snd.fst) fun y0 =>
   Option.bind (f66 y0.fst) fun y1 =>
    bif y1.fst then
     some ((x.snd.fst, ()))
    else
     rec (x.fst, Go.IntKind.wrap Go.IntKind.i64 (x.snd.fst + 1), x.snd.snd.fst, x.snd.snd.snd.fst, x.snd.snd.snd.snd.fst, x.snd.snd.snd.snd.snd.fst, x.snd.snd.snd.snd.snd.snd.fst, x.snd.snd.snd.snd.snd.snd.snd.fst, x.snd.snd.snd.snd.snd.snd.snd.snd.fst, x.snd.snd.snd.snd.snd.snd.snd.snd.snd.fst, x.snd.snd.snd.snd.snd.snd.snd.snd.snd.snd.fst, x.snd.snd.snd.snd.snd.snd.snd.snd.snd.snd.snd.fst, x.snd.snd.snd.snd.snd.snd.snd.snd.snd.snd.snd.snd.fst, ())
 else
  some ((-1, ()))
 ) (100000000000000000000) (x)
def f50 (a0 : Int) (a1 : Int) (a2 : Int) (a3 : Int) (a4 : List Int) (a5 : List (Int × Int × Int × Int × Int × Int × Int × Int × Int × Int × Int)) (a6 : List (Int × Int × Int × Int)) (a7 : Int) (a8 : Int) (a9 : Int) (a10 : Int) (a11 : Int) : Option (Int × Unit) :=
 f50.L1 ((a11, 0, a0, a1, a2, a3, a4, a5, a6, a7, a8, a9, a10, ()))
def f50.ins : Shape := ⟨[(0, .agg [.int .i64, .int .i64, .int .i64, .int .i64, .row (.int .u8), .row (.prod (.int .i64) (.prod (.int .i64) (.prod (.int .i64) (.prod (.int .i64) (.prod (.int .i64) (.prod (.int .i64) (.prod (.int .i64) (.prod (.int .i64) (.prod (.int .i64) (.prod (.int .i64) (.int .i64))))))))))), .row (.prod (.int .i64) (.prod (.int .i64) (.prod (.int .i64) (.int .i64)))), .int .i64, .int .i64, .int .i64, .int .i64]), (1, .c (.int .i64)), (2, .c (.fn 66 []))], []⟩
def f50.outs : List Shape := [⟨[(0, .c (.int .i64))], []⟩]
def f50.S : FnSpec := ⟨f50.ins, f50.outs, [], fun x => f50 x.1 x.2.1 x.2.2.1 x.2.2.2.1 x.2.2.2.2.1 x.2.2.2.2.2.1 x.2.2.2.2.2.2.1 x.2.2.2.2.2.2.2.1 x.2.2.2.2.2.2.2.2.1 x.2.2.2.2.2.2.2.2.2.1 x.2.2.2.2.2.2.2.2.2.2.1 x.2.2.2.2.2.2.2.2.2.2.2.1⟩
def f50.E (fuel : Nat) : Env := ⟨tis, [(32, f32.S), (66, f66.S)], [], [], [(3, ⟨[(1, .c (.int .i64)), (2, .c (.fn 66 [])), (3, .c (.ptr 0 0)), (8, .c (.int .i64))], [(0, .box [.int .i64, .int .i64, .int .i64, .int .i64, .row (.int .u8), .row (.prod (.int .i64) (.prod (.int .i64) (.prod (.int .i64) (.prod (.int .i64) (.prod (.int .i64) (.prod (.int .i64) (.prod (.int .i64) (.prod (.int .i64) (.prod (.int .i64) (.prod (.int .i64) (.int .i64))))))))))), .row (.prod (.int .i64) (.prod (.int .i64) (.prod (.int .i64) (.int .i64)))), .int .i64, .int .i64, .int .i64, .int .i64])]⟩)], [], 0, [], fuel⟩
theorem f50.run : ∀ x, runFn (f50.E 100000000000000000000) Go.Proofs.Try.f50 ((Go.Proofs.Try.f50.body).getD .skip) f50.S x = f50.S.f x := by intro x; kernel_rfl
theorem f50.sound : Sound Go.Proofs.Try.prog 50 f50.S := sound_of_run (fun _ => f50.E 100000000000000000000) (by kernel_rfl) (by kernel_rfl) (by kernel_rfl) orders (fun _ => ⟨tis_ok, EqsOk.nil _, (FnsOk.cons f32.sound (FnsOk.cons f66.sound FnsOk.nil))⟩) (fun _ => rfl) (by kernel_rfl) (by kernel_rfl) (fun x r h => (f50.run x).trans h)
/-! f61: adit/goods.empty -/
def f61 (a0 : Int) (a1 : Int) (a2 : Int) (a3 : Int) (a4 : List Int) (a5 : List (Int × Int × Int × Int × Int × Int × Int × Int × Int × Int × Int)) (a6 : List (Int × Int × Int × Int)) (a7 : Int) (a8 : Int) (a9 : Int) (a10 : Int) (a11 : Int) : Option (Int × Unit) :=
 Option.bind (f50 a0 a1 a2 a3 a4 a5 a6 a7 a8 a9 a10 a11) fun y0 =>
  some ((y0.fst, ()))
def f61.ins : Shape := ⟨[(0, .agg [.int .i64, .int .i64, .int .i64, .int .i64, .row (.int .u8), .row (.prod (.int .i64) (.prod (.int .i64) (.prod (.int .i64) (.prod (.int .i64) (.prod (.int .i64) (.prod (.int .i64) (.prod (.int .i64) (.prod (.int .i64) (.prod (.int .i64) (.prod (.int .i64) (.int .i64))))))))))), .row (.prod (.int .i64) (.prod (.int .i64) (.prod (.int .i64) (.int .i64)))), .int .i64, .int .i64, .int .i64, .int .i64]), (1, .c (.int .i64))], []⟩
def f61.outs : List Shape := [⟨[(0, .c (.int .i64))], []⟩]
def f61.S : FnSpec := ⟨f61.ins, f61.outs, [], fun x => f61 x.1 x.2.1 x.2.2.1 x.2.2.2.1 x.2.2.2.2.1 x.2.2.2.2.2.1 x.2.2.2.2.2.2.1 x.2.2.2.2.2.2.2.1 x.2.2.2.2.2.2.2.2.1 x.2.2.2.2.2.2.2.2.2.1 x.2.2.2.2.2.2.2.2.2.2.1 x.2.2.2.2.2.2.2.2.2.2.2.1⟩
def f61.E (fuel : Nat) : Env := ⟨tis, [(50, f50.S)], [], [], [], [], 0, [], fuel⟩
theorem f61.run : ∀ x, runFn (f61.E 100000000000000000000) Go.Proofs.Try.f61 ((Go.Proofs.Try.f61.body).getD .skip) f61.S x = f61.S.f x := by intro x; kernel_rfl
theorem f61.sound : Sound Go.Proofs.Try.prog 61 f61.S := sound_of_run (fun _ => f61.E 100000000000000000000) (by kernel_rfl) (by kernel_rfl) (by kernel_rfl) orders (fun _ => ⟨tis_ok, EqsOk.nil _, (FnsOk.cons f50.sound FnsOk.nil)⟩) (fun _ => rfl) (by kernel_rfl) (by kernel_rfl) (fun x r h => (f61.run x).trans h)
/-! f49: adit/goods.into -/
def f49 (a0 : Int) (a1 : Int) (a2 : Int) (a3 : Int) (a4 : Int) (a5 : Int) (a6 : Int) (a7 : Int) (a8 : Int) (a9 : Int) (a10 : List Int) (a11 : List (Int × Int × Int × Int × Int × Int × Int × Int × Int × Int × Int)) (a12 : List (Int × Int × Int × Int)) : Option (Bool × List Int × List (Int × Int × Int × Int × Int × Int × Int × Int × Int × Int × Int) × List (Int × Int × Int × Int) × Unit) :=
 Option.bind (f61 a0 a1 a2 a3 a10 a11 a12 a4 a5 a6 a7 a8) fun y0 =>
  bif Decidable.decide (y0.fst < 0) then
   some ((Bool.false, a10, a11, a12, ()))
  else
   bif inRange a9 (List.length a12) then
    let s0 : List (Int × Int × Int × Int) := List.set a12 (Int.toNat a9) ((List.getD a12 (Int.toNat a9) (0, 0, 0, 0)).fst, 2, (List.getD a12 (Int.toNat a9) (0, 0, 0, 0)).snd.snd.fst, (List.getD a12 (Int.toNat a9) (0, 0, 0, 0)).snd.snd.snd)
    let s1 : List (Int × Int × Int × Int) := List.set s0 (Int.toNat a9) ((List.getD s0 (Int.toNat a9) (0, 0, 0, 0)).fst, (List.getD s0 (Int.toNat a9) (0, 0, 0, 0)).snd.fst, a8, (List.getD s0 (Int.toNat a9) (0, 0, 0, 0)).snd.snd.snd)
    let s2 : List (Int × Int × Int × Int) := List.set s1 (Int.toNat a9) ((List.getD s1 (Int.toNat a9) (0, 0, 0, 0)).fst, (List.getD s1 (Int.toNat a9) (0, 0, 0, 0)).snd.fst, (List.getD s1 (Int.toNat a9) (0, 0, 0, 0)).snd.snd.fst, y0.fst)
    some ((Bool.true, a10, a11, s2, ()))
   else
    none
def f49.ins : Shape := ⟨[(0, .agg [.int .i64, .int .i64, .int .i64, .int .i64, .own 0, .own 1, .own 2, .int .i64, .int .i64, .int .i64, .int .i64]), (1, .c (.int .i64)), (2, .c (.int .i64))], [(0, .arr (.int .u8)), (1, .arr (.prod (.int .i64) (.prod (.int .i64) (.prod (.int .i64) (.prod (.int .i64) (.prod (.int .i64) (.prod (.int .i64) (.prod (.int .i64) (.prod (.int .i64) (.prod (.int .i64) (.prod (.int .i64) (.int .i64)))))))))))), (2, .arr (.prod (.int .i64) (.prod (.int .i64) (.prod (.int .i64) (.int .i64)))))]⟩
def f49.outs : List Shape := [⟨[(0, .c (.bool))], [(0, .arr (.int .u8)), (1, .arr (.prod (.int .i64) (.prod (.int .i64) (.prod (.int .i64) (.prod (.int .i64) (.prod (.int .i64) (.prod (.int .i64) (.prod (.int .i64) (.prod (.int .i64) (.prod (.int .i64) (.prod (.int .i64) (.int .i64)))))))))))), (2, .arr (.prod (.int .i64) (.prod (.int .i64) (.prod (.int .i64) (.int .i64)))))]⟩]
def f49.S : FnSpec := ⟨f49.ins, f49.outs, [0, 1, 2], fun x => f49 x.1 x.2.1 x.2.2.1 x.2.2.2.1 x.2.2.2.2.1 x.2.2.2.2.2.1 x.2.2.2.2.2.2.1 x.2.2.2.2.2.2.2.1 x.2.2.2.2.2.2.2.2.1 x.2.2.2.2.2.2.2.2.2.1 x.2.2.2.2.2.2.2.2.2.2.1 x.2.2.2.2.2.2.2.2.2.2.2.1 x.2.2.2.2.2.2.2.2.2.2.2.2.1⟩
def f49.E (fuel : Nat) : Env := ⟨tis, [(61, f61.S)], [], [], [], [], 3, [0, 1, 2], fuel⟩
theorem f49.run : ∀ x, runFn (f49.E 100000000000000000000) Go.Proofs.Try.f49 ((Go.Proofs.Try.f49.body).getD .skip) f49.S x = f49.S.f x := by intro x; kernel_rfl
theorem f49.sound : Sound Go.Proofs.Try.prog 49 f49.S := sound_of_run (fun _ => f49.E 100000000000000000000) (by kernel_rfl) (by kernel_rfl) (by kernel_rfl) orders (fun _ => ⟨tis_ok, EqsOk.nil _, (FnsOk.cons f61.sound FnsOk.nil)⟩) (fun _ => rfl) (by kernel_rfl) (by kernel_rfl) (fun x r h => (f49.run x).trans h)
/-! f29: adit/goods.pick -/
def f29 (a0 : Int) (a1 : Int) (a2 : Int) (a3 : Int) (a4 : Int) (a5 : Int) (a6 : Int) (a7 : Int) (a8 : Int) (a9 : Int) (a10 : Int) (a11 : Int) (a12 : Int) (a13 : Int) (a14 : Int) (a15 : Int) (a16 : Int) (a17 : Int) (a18 : Int) (a19 : Int) (a20 : List Int) (a21 : List (Int × Int × Int × Int × Int × Int × Int × Int × Int × Int × Int)) (a22 : List (Int × Int × Int × Int)) : Option (Int × Int × Int × Int × Int × Int × Int × Int × List Int × List (Int × Int × Int × Int × Int × Int × Int × Int × Int × Int × Int) × List (Int × Int × Int × Int) × Unit) :=
 Option.bind (f32 a12 a13 a14 a15 a20 a21 a22 a16 a17 a18 a19 1 a4 a5) fun y0 =>
  bif Decidable.decide (y0.fst < 0) then
   some ((a12, a13, a14, a15, a16, a17, a18, a19, a20, a21, a22, ()))
  else
   bif inRange y0.fst (List.length a22) then
    bif (List.getD a22 (Int.toNat y0.fst) (0, 0, 0, 0)).fst == 4 then
     bif inRange y0.fst (List.length a22) then
      bif inRange a0 4 then
       bif inRange a0 4 then
        some ((a12, a13, a14, a15, if Int.toNat a0 = 0 / 1 then minI (Go.IntKind.wrap Go.IntKind.i64 (List.getD [a16, a17, a18, a19] (Int.toNat a0) 0 + 5)) 999 else a16, if Int.toNat a0 = (0 + 1) / 1 then minI (Go.IntKind.wrap Go.IntKind.i64 (List.getD [a16, a17, a18, a19] (Int.toNat a0) 0 + 5)) 999 else a17, if Int.toNat a0 = (0 + 1 + 1) / 1 then minI (Go.IntKind.wrap Go.IntKind.i64 (List.getD [a16, a17, a18, a19] (Int.toNat a0) 0 + 5)) 999 else a18, if Int.toNat a0 = (0 + 1 + 1 + 1) / 1 then minI (Go.IntKind.wrap Go.IntKind.i64 (List.getD [a16, a17, a18, a19] (Int.toNat a0) 0 + 5)) 999 else a19, a20, a21, List.set a22 (Int.toNat y0.fst) (0, 0, 0, 0), ()))
       else
        none
      else
       none
     else
      none
    else
     Option.bind (f49 a12 a13 a14 a15 a16 a17 a18 a19 a0 y0.fst a20 a21 a22) fun y1 =>
      some ((a12, a13, a14, a15, a16, a17, a18, a19, y1.snd.fst, y1.snd.snd.fst, y1.snd.snd.snd.fst, ()))
   else
    none
def f29.ins : Shape := ⟨[(0, .c (.ptr 0 0)), (1, .c (.int .i64)), (2, .agg [.int .i64, .int .i64, .int .i64, .int .i64, .int .i64, .int .i64, .int .i64, .int .i64, .int .i64, .int .i64, .int .i64])], [(0, .box [.int .i64, .int .i64, .int .i64, .int .i64, .own 1, .own 2, .own 3, .int .i64, .int .i64, .int .i64, .int .i64]), (1, .arr (.int .u8)), (2, .arr (.prod (.int .i64) (.prod (.int .i64) (.prod (.int .i64) (.prod (.int .i64) (.prod (.int .i64) (.prod (.int .i64) (.prod (.int .i64) (.prod (.int .i64) (.prod (.int .i64) (.prod (.int .i64) (.int .i64)))))))))))), (3, .arr (.prod (.int .i64) (.prod (.int .i64) (.prod (.int .i64) (.int .i64)))))]⟩
def f29.outs : List Shape := [⟨[], [(0, .box [.int .i64, .int .i64, .int .i64, .int .i64, .own 1, .own 2, .own 3, .int .i64, .int .i64, .int .i64, .int .i64]), (1, .arr (.int .u8)), (2, .arr (.prod (.int .i64) (.prod (.int .i64) (.prod (.int .i64) (.prod (.int .i64) (.prod (.int .i64) (.prod (.int .i64) (.prod (.int .i64) (.prod (.int .i64) (.prod (.int .i64) (.prod (.int .i64) (.int .i64)))))))))))), (3, .arr (.prod (.int .i64) (.prod (.int .i64) (.prod (.int .i64) (.int .i64)))))]⟩]
def f29.S : FnSpec := ⟨f29.ins, f29.outs, [0, 1, 2, 3], fun x => f29 x.1 x.2.1 x.2.2.1 x.2.2.2.1 x.2.2.2.2.1 x.2.2.2.2.2.1 x.2.2.2.2.2.2.1 x.2.2.2.2.2.2.2.1 x.2.2.2.2.2.2.2.2.1 x.2.2.2.2.2.2.2.2.2.1 x.2.2.2.2.2.2.2.2.2.2.1 x.2.2.2.2.2.2.2.2.2.2.2.1 x.2.2.2.2.2.2.2.2.2.2.2.2.1 x.2.2.2.2.2.2.2.2.2.2.2.2.2.1 x.2.2.2.2.2.2.2.2.2.2.2.2.2.2.1 x.2.2.2.2.2.2.2.2.2.2.2.2.2.2.2.1 x.2.2.2.2.2.2.2.2.2.2.2.2.2.2.2.2.1 x.2.2.2.2.2.2.2.2.2.2.2.2.2.2.2.2.2.1 x.2.2.2.2.2.2.2.2.2.2.2.2.2.2.2.2.2.2.1 x.2.2.2.2.2.2.2.2.2.2.2.2.2.2.2.2.2.2.2.1 x.2.2.2.2.2.2.2.2.2.2.2.2.2.2.2.2.2.2.2.2.1 x.2.2.2.2.2.2.2.2.2.2.2.2.2.2.2.2.2.2.2.2.2.1 x.2.2.2.2.2.2.2.2.2.2.2.2.2.2.2.2.2.2.2.2.2.2.1⟩
def f29.E (fuel : Nat) : Env := ⟨tis, [(32, f32.S), (49, f49.S)], [], [], [], [], 4, [0, 1, 2, 3], fuel⟩
theorem f29.run : ∀ x, runFn (f29.E 100000000000000000000) Go.Proofs.Try.f29 ((Go.Proofs.Try.f29.body).getD .skip) f29.S x = f29.S.f x := by intro x; kernel_rfl
theorem f29.sound : Sound Go.Proofs.Try.prog 29 f29.S := sound_of_run (fun _ => f29.E 100000000000000000000) (by kernel_rfl) (by kernel_rfl) (by kernel_rfl) orders (fun _ => ⟨tis_ok, EqsOk.nil _, (FnsOk.cons f32.sound (FnsOk.cons f49.sound FnsOk.nil))⟩) (fun _ => rfl) (by kernel_rfl) (by kernel_rfl) (fun x r h => (f29.run x).trans h)
/-! f62: slices.Index[[]int,int] -/
def f62.L1 (x : List Int × Int × Int × Int × Unit) : Option (Int × Unit) :=
 it (X := List Int × Int × Int × Int × Unit) (fun rec x =>
 bif Decidable.decide (x.snd.snd.snd.fst < x.snd.snd.fst) then
  bif inRange x.snd.snd.snd.fst (List.length x.fst) then
   bif x.snd.fst == List.getD x.fst (Int.toNat x.snd.snd.snd.fst) 0 then
    some ((x.snd.snd.snd.fst, ()))
   else
    rec (x.fst, x.snd.fst, x.snd.snd.fst, Go.IntKind.wrap Go.IntKind.i64 (x.snd.snd.snd.fst + 1), ())
  else
   none
 else
  some ((-1, ()))
 ) (100000000000000000000) (x)
def f62 (a0 : List Int) (a1 : Int) : Option (Int × Unit) :=
 f62.L1 ((a0, a1, (↑(List.length a0) : Int), 0, ()))
def f62.ins : Shape := ⟨[(0, .c (.row (.int .i64))), (1, .c (.int .i64))], []⟩
def f62.outs : List Shape := [⟨[(0, .c (.int .i64))], []⟩]
def f62.S : FnSpec := ⟨f62.ins, f62.outs, [], fun x => f62 x.1 x.2.1⟩
def f62.E (fuel : Nat) : Env := ⟨tis, [], [], [], [(3, ⟨[(0, .c (.row (.int .i64))), (1, .c (.int .i64)), (7, .c (.int .i64)), (8, .c (.int .i64))], []⟩)], [], 0, [], fuel⟩
theorem f62.run : ∀ x, runFn (f62.E 100000000000000000000) Go.Proofs.Try.f62 ((Go.Proofs.Try.f62.body).getD .skip) f62.S x = f62.S.f x := by intro x; kernel_rfl
theorem f62.sound : Sound Go.Proofs.Try.prog 62 f62.S := sound_of_run (fun _ => f62.E 100000000000000000000) (by kernel_rfl) (by kernel_rfl) (by kernel_rfl) orders (fun _ => ⟨tis_ok, EqsOk.nil _, FnsOk.nil⟩) (fun _ => rfl) (by kernel_rfl) (by kernel_rfl) (fun x r h => (f62.run x).trans h)
/-! f52: slices.Contains[[]int,int] -/
def f52 (a0 : List Int) (a1 : Int) : Option (Bool × Unit) :=
 Option.bind (f62 a0 a1) fun y0 =>
  some ((Decidable.decide (y0.fst ≥ 0), ()))
def f52.ins : Shape := ⟨[(0, .c (.row (.int .i64))), (1, .c (.int .i64))], []⟩
def f52.outs : List Shape := [⟨[(0, .c (.bool))], []⟩]
def f52.S : FnSpec := ⟨f52.ins, f52.outs, [], fun x => f52 x.1 x.2.1⟩
def f52.E (fuel : Nat) : Env := ⟨tis, [(62, f62.S)], [], [], [], [], 0, [], fuel⟩
theorem f52.run : ∀ x, runFn (f52.E 100000000000000000000) Go.Proofs.Try.f52 ((Go.Proofs.Try.f52.body).getD .skip) f52.S x = f52.S.f x := by intro x; kernel_rfl
theorem f52.sound : Sound Go.Proofs.Try.prog 52 f52.S := sound_of_run (fun _ => f52.E 100000000000000000000) (by kernel_rfl) (by kernel_rfl) (by kernel_rfl) orders (fun _ => ⟨tis_ok, EqsOk.nil _, (FnsOk.cons f62.sound FnsOk.nil)⟩) (fun _ => rfl) (by kernel_rfl) (by kernel_rfl) (fun x r h => (f52.run x).trans h)
/-! f51: adit/goods.holding$1 -/
def f51 (a0 : Int) (a1 : List Int) (a2 : Int × Int × Int × Int × List Int × List (Int × Int × Int × Int × Int × Int × Int × Int × Int × Int × Int) × List (Int × Int × Int × Int) × Int × Int × Int × Int) : Option (Bool × Unit) :=
 bif Decidable.decide (a0 ≥ 0) then
  bif inRange a0 (List.length a2.snd.snd.snd.snd.snd.snd.fst) then
   Option.bind (f52 a1 (List.getD a2.snd.snd.snd.snd.snd.snd.fst (Int.toNat a0) (0, 0, 0, 0)).fst) fun y0 =>
    some ((y0.fst, ()))
  else
   none
 else
  some ((Bool.false, ()))
def f51.ins : Shape := ⟨[(0, .c (.int .i64)), (1, .c (.bptr (.row (.int .i64)))), (2, .c (.bptr (.prod (.int .i64) (.prod (.int .i64) (.prod (.int .i64) (.prod (.int .i64) (.prod (.row (.int .u8)) (.prod (.row (.prod (.int .i64) (.prod (.int .i64) (.prod (.int .i64) (.prod (.int .i64) (.prod (.int .i64) (.prod (.int .i64) (.prod (.int .i64) (.prod (.int .i64) (.prod (.int .i64) (.prod (.int .i64) (.int .i64)))))))))))) (.prod (.row (.prod (.int .i64) (.prod (.int .i64) (.prod (.int .i64) (.int .i64))))) (.prod (.int .i64) (.prod (.int .i64) (.prod (.int .i64) (.int .i64)))))))))))))], []⟩
def f51.outs : List Shape := [⟨[(0, .c (.bool))], []⟩]
def f51.S : FnSpec := ⟨f51.ins, f51.outs, [], fun x => f51 x.1 x.2.1 x.2.2.1⟩
def f51.E (fuel : Nat) : Env := ⟨tis, [(52, f52.S)], [], [], [], [], 0, [], fuel⟩
theorem f51.run : ∀ x, runFn (f51.E 100000000000000000000) Go.Proofs.Try.f51 ((Go.Proofs.Try.f51.body).getD .skip) f51.S x = f51.S.f x := by intro x; kernel_rfl
theorem f51.sound : Sound Go.Proofs.Try.prog 51 f51.S := sound_of_run (fun _ => f51.E 100000000000000000000) (by kernel_rfl) (by kernel_rfl) (by kernel_rfl) orders (fun _ => ⟨tis_ok, EqsOk.nil _, (FnsOk.cons f52.sound FnsOk.nil)⟩) (fun _ => rfl) (by kernel_rfl) (by kernel_rfl) (fun x r h => (f51.run x).trans h)
/-! f50_1: adit/goods.slot -/
def f50_1.L1 (x : Int × Int × List Int × Int × Int × Int × Int × List Int × List (Int × Int × Int × Int × Int × Int × Int × Int × Int × Int × Int) × List (Int × Int × Int × Int) × Int × Int × Int × Int × Int × Int × Int × Int × List Int × List (Int × Int × Int × Int × Int × Int × Int × Int × Int × Int × Int) × List (Int × Int × Int × Int) × Int × Int × Int × Int × Unit) : Option (Int × List Int × Int × Int × Int × Int × List Int × List (Int × Int × Int × Int × Int × Int × Int × Int × Int × Int × Int) × List (Int × Int × Int × Int) × Int × Int × Int × Int × Unit) :=
 it (X := Int × Int × List Int × Int × Int × Int × Int × List Int × List (Int × Int × Int × Int × Int × Int × Int × Int × Int × Int × Int) × List (Int × Int × Int × Int) × Int × Int × Int × Int × Int × Int × Int × Int × List Int × List (Int × Int × Int × Int × Int × Int × Int × Int × Int × Int × Int) × List (Int × Int × Int × Int) × Int × Int × Int × Int × Unit) (fun rec x =>
 bif Decidable.decide (x.snd.fst < 4) then
  Option.bind (f32 x.snd.snd.snd.snd.snd.snd.snd.snd.snd.snd.snd.snd.snd.snd.fst x.snd.snd.snd.snd.snd.snd.snd.snd.snd.snd.snd.snd.snd.snd.snd.fst x.snd.snd.snd.snd.snd.snd.snd.snd.snd.snd.snd.snd.snd.snd.snd.snd.fst x.snd.snd.snd.snd.snd.snd.snd.snd.snd.snd.snd.snd.snd.snd.snd.snd.snd.fst x.snd.snd.snd.snd.snd.snd.snd.snd.snd.snd.snd.snd.snd.snd.snd.snd.snd.snd.fst x.snd.snd.snd.snd.snd.snd.snd.snd.snd.snd.snd.snd.snd.snd.snd.snd.snd.snd.snd.fst x.snd.snd.snd.snd.snd.snd.snd.snd.snd.snd.snd.snd.snd.snd.snd.snd.snd.snd.snd.snd.fst x.snd.snd.snd.snd.snd.snd.snd.snd.snd.snd.snd.snd.snd.snd.snd.snd.snd.snd.snd.snd.snd.fst x.snd.snd.snd.snd.snd.snd.snd.snd.snd.snd.snd.snd.snd.snd.snd.snd.snd.snd.snd.snd.snd.snd.fst x.snd.snd.snd.snd.snd.snd.snd.snd.snd.snd.snd.snd.snd.snd.snd.snd.snd.snd.snd.snd.snd.snd.snd.fst x.snd.snd.snd.snd.snd.snd.snd.snd.snd.snd.snd.snd.snd.snd.snd.snd.snd.snd.snd.snd.snd.snd.snd.snd.fst 2 x.fst x.snd.fst) fun y0 =>
   Option.bind (f51 y0.fst x.snd.snd.fst (x.snd.snd.snd.fst, x.snd.snd.snd.snd.fst, x.snd.snd.snd.snd.snd.fst, x.snd.snd.snd.snd.snd.snd.fst, x.snd.snd.snd.snd.snd.snd.snd.fst, x.snd.snd.snd.snd.snd.snd.snd.snd.fst, x.snd.snd.snd.snd.snd.snd.snd.snd.snd.fst, x.snd.snd.snd.snd.snd.snd.snd.snd.snd.snd.fst, x.snd.snd.snd.snd.snd.snd.snd.snd.snd.snd.snd.fst, x.snd.snd.snd.snd.snd.snd.snd.snd.snd.snd.snd.snd.fst, x.snd.snd.snd.snd.snd.snd.snd.snd.snd.snd.snd.snd.snd.fst)) fun y1 =>
    bif y1.fst then
     some ((x.snd.fst, x.snd.snd.fst, x.snd.snd.snd.fst, x.snd.snd.snd.snd.fst, x.snd.snd.snd.snd.snd.fst, x.snd.snd.snd.snd.snd.snd.fst, x.snd.snd.snd.snd.snd.snd.snd.fst, x.snd.snd.snd.snd.snd.snd.snd.snd.fst, x.snd.snd.snd.snd.snd.snd.snd.snd.snd.fst, x.snd.snd.snd.snd.snd.snd.snd.snd.snd.snd.fst, x.snd.snd.snd.snd.snd.snd.snd.snd.snd.snd.snd.fst, x.snd.snd.snd.snd.snd.snd.snd.snd.snd.snd.snd.snd.fst, x.snd.snd.snd.snd.snd.snd.snd.snd.snd.snd.snd.snd.snd.fst, ()))
    else
     rec (x.fst, Go.IntKind.wrap Go.IntKind.i64 (x.snd.fst + 1), x.snd.snd.fst, x.snd.snd.snd.fst, x.snd.snd.snd.snd.fst, x.snd.snd.snd.snd.snd.fst, x.snd.snd.snd.snd.snd.snd.fst, x.snd.snd.snd.snd.snd.snd.snd.fst, x.snd.snd.snd.snd.snd.snd.snd.snd.fst, x.snd.snd.snd.snd.snd.snd.snd.snd.snd.fst, x.snd.snd.snd.snd.snd.snd.snd.snd.snd.snd.fst, x.snd.snd.snd.snd.snd.snd.snd.snd.snd.snd.snd.fst, x.snd.snd.snd.snd.snd.snd.snd.snd.snd.snd.snd.snd.fst, x.snd.snd.snd.snd.snd.snd.snd.snd.snd.snd.snd.snd.snd.fst, x.snd.snd.snd.snd.snd.snd.snd.snd.snd.snd.snd.snd.snd.snd.fst, x.snd.snd.snd.snd.snd.snd.snd.snd.snd.snd.snd.snd.snd.snd.snd.fst, x.snd.snd.snd.snd.snd.snd.snd.snd.snd.snd.snd.snd.snd.snd.snd.snd.fst, x.snd.snd.snd.snd.snd.snd.snd.snd.snd.snd.snd.snd.snd.snd.snd.snd.snd.fst, x.snd.snd.snd.snd.snd.snd.snd.snd.snd.snd.snd.snd.snd.snd.snd.snd.snd.snd.fst, x.snd.snd.snd.snd.snd.snd.snd.snd.snd.snd.snd.snd.snd.snd.snd.snd.snd.snd.snd.fst, x.snd.snd.snd.snd.snd.snd.snd.snd.snd.snd.snd.snd.snd.snd.snd.snd.snd.snd.snd.snd.fst, x.snd.snd.snd.snd.snd.snd.snd.snd.snd.snd.snd.snd.snd.snd.snd.snd.snd.snd.snd.snd.snd.fst, x.snd.snd.snd.snd.snd.snd.snd.snd.snd.snd.snd.snd.snd.snd.snd.snd.snd.snd.snd.snd.snd.snd.fst, x.snd.snd.snd.snd.snd.snd.snd.snd.snd.snd.snd.snd.snd.snd.snd.snd.snd.snd.snd.snd.snd.snd.snd.fst, x.snd.snd.snd.snd.snd.snd.snd.snd.snd.snd.snd.snd.snd.snd.snd.snd.snd.snd.snd.snd.snd.snd.snd.snd.fst, ())
 else
  some ((-1, x.snd.snd.fst, x.snd.snd.snd.fst, x.snd.snd.snd.snd.fst, x.snd.snd.snd.snd.snd.fst, x.snd.snd.snd.snd.snd.snd.fst, x.snd.snd.snd.snd.snd.snd.snd.fst, x.snd.snd.snd.snd.snd.snd.snd.snd.fst, x.snd.snd.snd.snd.snd.snd.snd.snd.snd.fst, x.snd.snd.snd.snd.snd.snd.snd.snd.snd.snd.fst, x.snd.snd.snd.snd.snd.snd.snd.snd.snd.snd.snd.fst, x.snd.snd.snd.snd.snd.snd.snd.snd.snd.snd.snd.snd.fst, x.snd.snd.snd.snd.snd.snd.snd.snd.snd.snd.snd.snd.snd.fst, ()))
 ) (100000000000000000000) (x)
def f50_1 (a0 : Int) (a1 : Int) (a2 : Int) (a3 : Int) (a4 : List Int) (a5 : List (Int × Int × Int × Int × Int × Int × Int × Int × Int × Int × Int)) (a6 : List (Int × Int × Int × Int)) (a7 : Int) (a8 : Int) (a9 : Int) (a10 : Int) (a11 : Int) (a12 : List Int) (a13 : Int) (a14 : Int) (a15 : Int) (a16 : Int) (a17 : List Int) (a18 : List (Int × Int × Int × Int × Int × Int × Int × Int × Int × Int × Int)) (a19 : List (Int × Int × Int × Int)) (a20 : Int) (a21 : Int) (a22 : Int) (a23 : Int) : Option (Int × List Int × Int × Int × Int × Int × List Int × List (Int × Int × Int × Int × Int × Int × Int × Int × Int × Int × Int) × List (Int × Int × Int × Int) × Int × Int × Int × Int × Unit) :=
 f50_1.L1 ((a11, 0, a12, a13, a14, a15, a16, a17, a18, a19, a20, a21, a22, a23, a0, a1, a2, a3, a4, a5, a6, a7, a8, a9, a10, ()))
def f50_1.ins : Shape := ⟨[(0, .agg [.int .i64, .int .i64, .int .i64, .int .i64, .row (.int .u8), .row (.prod (.int .i64) (.prod (.int .i64) (.prod (.int .i64) (.prod (.int .i64) (.prod (.int .i64) (.prod (.int .i64) (.prod (.int .i64) (.prod (.int .i64) (.prod (.int .i64) (.prod (.int .i64) (.int .i64))))))))))), .row (.prod (.int .i64) (.prod (.int .i64) (.prod (.int .i64) (.int .i64)))), .int .i64, .int .i64, .int .i64, .int .i64]), (1, .c (.int .i64)), (2, .c (.fn 51 [0, 1]))], [(0, .box [.row (.int .i64)]), (1, .box [.int .i64, .int .i64, .int .i64, .int .i64, .row (.int .u8), .row (.prod (.int .i64) (.prod (.int .i64) (.prod (.int .i64) (.prod (.int .i64) (.prod (.int .i64) (.prod (.int .i64) (.prod (.int .i64) (.prod (.int .i64) (.prod (.int .i64) (.prod (.int .i64) (.int .i64))))))))))), .row (.prod (.int .i64) (.prod (.int .i64) (.prod (.int .i64) (.int .i64)))), .int .i64, .int .i64, .int .i64, .int .i64])]⟩
def f50_1.outs : List Shape := [⟨[(0, .c (.int .i64))], [(0, .box [.row (.int .i64)]), (1, .box [.int .i64, .int .i64, .int .i64, .int .i64, .row (.int .u8), .row (.prod (.int .i64) (.prod (.int .i64) (.prod (.int .i64) (.prod (.int .i64) (.prod (.int .i64) (.prod (.int .i64) (.prod (.int .i64) (.prod (.int .i64) (.prod (.int .i64) (.prod (.int .i64) (.int .i64))))))))))), .row (.prod (.int .i64) (.prod (.int .i64) (.prod (.int .i64) (.int .i64)))), .int .i64, .int .i64, .int .i64, .int .i64])]⟩]
def f50_1.S : FnSpec := ⟨f50_1.ins, f50_1.outs, [0, 1], fun x => f50_1 x.1 x.2.1 x.2.2.1 x.2.2.2.1 x.2.2.2.2.1 x.2.2.2.2.2.1 x.2.2.2.2.2.2.1 x.2.2.2.2.2.2.2.1 x.2.2.2.2.2.2.2.2.1 x.2.2.2.2.2.2.2.2.2.1 x.2.2.2.2.2.2.2.2.2.2.1 x.2.2.2.2.2.2.2.2.2.2.2.1 x.2.2.2.2.2.2.2.2.2.2.2.2.1 x.2.2.2.2.2.2.2.2.2.2.2.2.2.1 x.2.2.2.2.2.2.2.2.2.2.2.2.2.2.1 x.2.2.2.2.2.2.2.2.2.2.2.2.2.2.2.1 x.2.2.2.2.2.2.2.2.2.2.2.2.2.2.2.2.1 x.2.2.2.2.2.2.2.2.2.2.2.2.2.2.2.2.2.1 x.2.2.2.2.2.2.2.2.2.2.2.2.2.2.2.2.2.2.1 x.2.2.2.2.2.2.2.2.2.2.2.2.2.2.2.2.2.2.2.1 x.2.2.2.2.2.2.2.2.2.2.2.2.2.2.2.2.2.2.2.2.1 x.2.2.2.2.2.2.2.2.2.2.2.2.2.2.2.2.2.2.2.2.2.1 x.2.2.2.2.2.2.2.2.2.2.2.2.2.2.2.2.2.2.2.2.2.2.1 x.2.2.2.2.2.2.2.2.2.2.2.2.2.2.2.2.2.2.2.2.2.2.2.1⟩
def f50_1.E (fuel : Nat) : Env := ⟨tis, [(32, f32.S), (51, f51.S)], [], [], [(3, ⟨[(1, .c (.int .i64)), (2, .c (.fn 51 [0, 1])), (3, .c (.ptr 2 0)), (8, .c (.int .i64))], [(0, .box [.row (.int .i64)]), (1, .box [.int .i64, .int .i64, .int .i64, .int .i64, .row (.int .u8), .row (.prod (.int .i64) (.prod (.int .i64) (.prod (.int .i64) (.prod (.int .i64) (.prod (.int .i64) (.prod (.int .i64) (.prod (.int .i64) (.prod (.int .i64) (.prod (.int .i64) (.prod (.int .i64) (.int .i64))))))))))), .row (.prod (.int .i64) (.prod (.int .i64) (.prod (.int .i64) (.int .i64)))), .int .i64, .int .i64, .int .i64, .int .i64]), (2, .box [.int .i64, .int .i64, .int .i64, .int .i64, .row (.int .u8), .row (.prod (.int .i64) (.prod (.int .i64) (.prod (.int .i64) (.prod (.int .i64) (.prod (.int .i64) (.prod (.int .i64) (.prod (.int .i64) (.prod (.int .i64) (.prod (.int .i64) (.prod (.int .i64) (.int .i64))))))))))), .row (.prod (.int .i64) (.prod (.int .i64) (.prod (.int .i64) (.int .i64)))), .int .i64, .int .i64, .int .i64, .int .i64])]⟩)], [], 2, [0, 1], fuel⟩
theorem f50_1.run : ∀ x, runFn (f50_1.E 100000000000000000000) Go.Proofs.Try.f50 ((Go.Proofs.Try.f50.body).getD .skip) f50_1.S x = f50_1.S.f x := by intro x; kernel_rfl
theorem f50_1.sound : Sound Go.Proofs.Try.prog 50 f50_1.S := sound_of_run (fun _ => f50_1.E 100000000000000000000) (by kernel_rfl) (by kernel_rfl) (by kernel_rfl) orders (fun _ => ⟨tis_ok, EqsOk.nil _, (FnsOk.cons f32.sound (FnsOk.cons f51.sound FnsOk.nil))⟩) (fun _ => rfl) (by kernel_rfl) (by kernel_rfl) (fun x r h => (f50_1.run x).trans h)
/-! f30: adit/goods.holding -/
def f30 (a0 : Int) (a1 : Int) (a2 : Int) (a3 : Int) (a4 : List Int) (a5 : List (Int × Int × Int × Int × Int × Int × Int × Int × Int × Int × Int)) (a6 : List (Int × Int × Int × Int)) (a7 : Int) (a8 : Int) (a9 : Int) (a10 : Int) (a11 : Int) (a12 : List Int) : Option (Int × Unit) :=
 Option.bind (f50_1 a0 a1 a2 a3 a4 a5 a6 a7 a8 a9 a10 a11 a12 a0 a1 a2 a3 a4 a5 a6 a7 a8 a9 a10) fun y0 =>
  bif Decidable.decide (y0.fst < 0) then
   some ((-1, ()))
  else
   Option.bind (f32 y0.snd.snd.fst y0.snd.snd.snd.fst y0.snd.snd.snd.snd.fst y0.snd.snd.snd.snd.snd.fst y0.snd.snd.snd.snd.snd.snd.fst y0.snd.snd.snd.snd.snd.snd.snd.fst y0.snd.snd.snd.snd.snd.snd.snd.snd.fst y0.snd.snd.snd.snd.snd.snd.snd.snd.snd.fst y0.snd.snd.snd.snd.snd.snd.snd.snd.snd.snd.fst y0.snd.snd.snd.snd.snd.snd.snd.snd.snd.snd.snd.fst y0.snd.snd.snd.snd.snd.snd.snd.snd.snd.snd.snd.snd.fst 2 a11 y0.fst) fun y1 =>
    some ((y1.fst, ()))
def f30.ins : Shape := ⟨[(0, .agg [.int .i64, .int .i64, .int .i64, .int .i64, .row (.int .u8), .row (.prod (.int .i64) (.prod (.int .i64) (.prod (.int .i64) (.prod (.int .i64) (.prod (.int .i64) (.prod (.int .i64) (.prod (.int .i64) (.prod (.int .i64) (.prod (.int .i64) (.prod (.int .i64) (.int .i64))))))))))), .row (.prod (.int .i64) (.prod (.int .i64) (.prod (.int .i64) (.int .i64)))), .int .i64, .int .i64, .int .i64, .int .i64]), (1, .c (.int .i64)), (2, .c (.row (.int .i64)))], []⟩
def f30.outs : List Shape := [⟨[(0, .c (.int .i64))], []⟩]
def f30.S : FnSpec := ⟨f30.ins, f30.outs, [], fun x => f30 x.1 x.2.1 x.2.2.1 x.2.2.2.1 x.2.2.2.2.1 x.2.2.2.2.2.1 x.2.2.2.2.2.2.1 x.2.2.2.2.2.2.2.1 x.2.2.2.2.2.2.2.2.1 x.2.2.2.2.2.2.2.2.2.1 x.2.2.2.2.2.2.2.2.2.2.1 x.2.2.2.2.2.2.2.2.2.2.2.1 x.2.2.2.2.2.2.2.2.2.2.2.2.1⟩
def f30.E (fuel : Nat) : Env := ⟨tis, [(32, f32.S), (50, f50_1.S)], [], [], [], [], 0, [], fuel⟩
theorem f30.run : ∀ x, runFn (f30.E 100000000000000000000) Go.Proofs.Try.f30 ((Go.Proofs.Try.f30.body).getD .skip) f30.S x = f30.S.f x := by intro x; kernel_rfl
theorem f30.sound : Sound Go.Proofs.Try.prog 30 f30.S := sound_of_run (fun _ => f30.E 100000000000000000000) (by kernel_rfl) (by kernel_rfl) (by kernel_rfl) orders (fun _ => ⟨tis_ok, EqsOk.nil _, (FnsOk.cons f32.sound (FnsOk.cons f50_1.sound FnsOk.nil))⟩) (fun _ => rfl) (by kernel_rfl) (by kernel_rfl) (fun x r h => (f30.run x).trans h)
/-! f31: adit/goods.wear -/
def f31 (a0 : Int) (a1 : Int) (a2 : Int) (a3 : Int) (a4 : Int) (a5 : Int) (a6 : Int) (a7 : Int) (a8 : Int) (a9 : List Int) (a10 : List (Int × Int × Int × Int × Int × Int × Int × Int × Int × Int × Int)) (a11 : List (Int × Int × Int × Int)) : Option (List Int × List (Int × Int × Int × Int × Int × Int × Int × Int × Int × Int × Int) × List (Int × Int × Int × Int) × Unit) :=
 Option.bind (f30 a0 a1 a2 a3 a9 a10 a11 a4 a5 a6 a7 a8 [2, 3]) fun y0 =>
  bif Decidable.decide (y0.fst < 0) then
   some ((a9, a10, a11, ()))
  else
   bif inRange y0.fst (List.length a11) then
    Option.bind (α := Nat × Int × List Int × List (Int × Int × Int × Int × Int × Int × Int × Int × Int × Int × Int) × List (Int × Int × Int × Int) × Unit ⊕ List Int × List (Int × Int × Int × Int × Int × Int × Int × Int × Int × Int × Int) × List (Int × Int × Int × Int) × Unit) (
     Option.bind (f32 a0 a1 a2 a3 a9 a10 a11 a4 a5 a6 a7 3 a8 (Go.IntKind.wrap Go.IntKind.i64 ((List.getD a11 (Int.toNat y0.fst) (0, 0, 0, 0)).fst - 2))) fun y4 =>
      bif Decidable.decide (y4.fst ≥ 0) then
       bif inRange y4.fst (List.length a11) then
        let s0 : List (Int × Int × Int × Int) := List.set a11 (Int.toNat y4.fst) ((List.getD a11 (Int.toNat y4.fst) (0, 0, 0, 0)).fst, 2, (List.getD a11 (Int.toNat y4.fst) (0, 0, 0, 0)).snd.snd.fst, (List.getD a11 (Int.toNat y4.fst) (0, 0, 0, 0)).snd.snd.snd)
        bif inRange y4.fst (List.length s0) then
         let s1 : List (Int × Int × Int × Int) := List.set s0 (Int.toNat y4.fst) ((List.getD s0 (Int.toNat y4.fst) (0, 0, 0, 0)).fst, (List.getD s0 (Int.toNat y4.fst) (0, 0, 0, 0)).snd.fst, (List.getD s0 (Int.toNat y4.fst) (0, 0, 0, 0)).snd.snd.fst, (List.getD a11 (Int.toNat y0.fst) (0, 0, 0, 0)).snd.snd.snd)
         some (Sum.inl (Int.toNat y0.fst, Go.IntKind.wrap Go.IntKind.i64 ((List.getD a11 (Int.toNat y0.fst) (0, 0, 0, 0)).fst - 2), a9, a10, s1, ()))
        else
         none
       else
        none
      else
       some (Sum.inl (Int.toNat y0.fst, Go.IntKind.wrap Go.IntKind.i64 ((List.getD a11 (Int.toNat y0.fst) (0, 0, 0, 0)).fst - 2), a9, a10, a11, ()))
    ) fun y1 =>
     Sum.elim (fun y2 =>
      let s0 : List (Int × Int × Int × Int) := List.set y2.snd.snd.snd.snd.fst y2.fst ((List.getD y2.snd.snd.snd.snd.fst y2.fst (0, 0, 0, 0)).fst, 3, (List.getD y2.snd.snd.snd.snd.fst y2.fst (0, 0, 0, 0)).snd.snd.fst, (List.getD y2.snd.snd.snd.snd.fst y2.fst (0, 0, 0, 0)).snd.snd.snd)
      let s1 : List (Int × Int × Int × Int) := List.set s0 y2.fst ((List.getD s0 y2.fst (0, 0, 0, 0)).fst, (List.getD s0 y2.fst (0, 0, 0, 0)).snd.fst, (List.getD s0 y2.fst (0, 0, 0, 0)).snd.snd.fst, y2.snd.fst)
      some ((y2.snd.snd.fst, y2.snd.snd.snd.fst, s1, ()))
     ) (fun z3 =>
      some (z3)
     ) (y1)
   else
    none
def f31.ins : Shape := ⟨[(0, .agg [.int .i64, .int .i64, .int .i64, .int .i64, .own 0, .own 1, .own 2, .int .i64, .int .i64, .int .i64, .int .i64]), (1, .c (.int .i64))], [(0, .arr (.int .u8)), (1, .arr (.prod (.int .i64) (.prod (.int .i64) (.prod (.int .i64) (.prod (.int .i64) (.prod (.int .i64) (.prod (.int .i64) (.prod (.int .i64) (.prod (.int .i64) (.prod (.int .i64) (.prod (.int .i64) (.int .i64)))))))))))), (2, .arr (.prod (.int .i64) (.prod (.int .i64) (.prod (.int .i64) (.int .i64)))))]⟩
def f31.outs : List Shape := [⟨[], [(0, .arr (.int .u8)), (1, .arr (.prod (.int .i64) (.prod (.int .i64) (.prod (.int .i64) (.prod (.int .i64) (.prod (.int .i64) (.prod (.int .i64) (.prod (.int .i64) (.prod (.int .i64) (.prod (.int .i64) (.prod (.int .i64) (.int .i64)))))))))))), (2, .arr (.prod (.int .i64) (.prod (.int .i64) (.prod (.int .i64) (.int .i64)))))]⟩]
def f31.S : FnSpec := ⟨f31.ins, f31.outs, [0, 1, 2], fun x => f31 x.1 x.2.1 x.2.2.1 x.2.2.2.1 x.2.2.2.2.1 x.2.2.2.2.2.1 x.2.2.2.2.2.2.1 x.2.2.2.2.2.2.2.1 x.2.2.2.2.2.2.2.2.1 x.2.2.2.2.2.2.2.2.2.1 x.2.2.2.2.2.2.2.2.2.2.1 x.2.2.2.2.2.2.2.2.2.2.2.1⟩
def f31.E (fuel : Nat) : Env := ⟨tis, [(32, f32.S), (30, f30.S)], [], [(9, ⟨[(5, .c (.eptr 2 0)), (6, .c (.int .i64))], [(0, .arr (.int .u8)), (1, .arr (.prod (.int .i64) (.prod (.int .i64) (.prod (.int .i64) (.prod (.int .i64) (.prod (.int .i64) (.prod (.int .i64) (.prod (.int .i64) (.prod (.int .i64) (.prod (.int .i64) (.prod (.int .i64) (.int .i64)))))))))))), (2, .arr (.prod (.int .i64) (.prod (.int .i64) (.prod (.int .i64) (.int .i64)))))]⟩)], [], [], 3, [0, 1, 2], fuel⟩
theorem f31.run : ∀ x, runFn (f31.E 100000000000000000000) Go.Proofs.Try.f31 ((Go.Proofs.Try.f31.body).getD .skip) f31.S x = f31.S.f x := by intro x; kernel_rfl
theorem f31.sound : Sound Go.Proofs.Try.prog 31 f31.S := sound_of_run (fun _ => f31.E 100000000000000000000) (by kernel_rfl) (by kernel_rfl) (by kernel_rfl) orders (fun _ => ⟨tis_ok, EqsOk.nil _, (FnsOk.cons f32.sound (FnsOk.cons f30.sound FnsOk.nil))⟩) (fun _ => rfl) (by kernel_rfl) (by kernel_rfl) (fun x r h => (f31.run x).trans h)
/-! f64: adit/grid.place -/
def f64 (a0 : Int) (a1 : Int) : Option (Int × Unit) :=
 bif Decidable.decide (a0 < 0) then
  some ((-1, ()))
 else
  bif Decidable.decide (a0 ≥ 24) then
   some ((-1, ()))
  else
   bif Decidable.decide (a1 < 0) then
    some ((-1, ()))
   else
    bif Decidable.decide (a1 ≥ 16) then
     some ((-1, ()))
    else
     some ((Go.IntKind.wrap Go.IntKind.i64 (Go.IntKind.wrap Go.IntKind.i64 (a1 * 24) + a0), ()))
def f64.ins : Shape := ⟨[(0, .c (.int .i64)), (1, .c (.int .i64))], []⟩
def f64.outs : List Shape := [⟨[(0, .c (.int .i64))], []⟩]
def f64.S : FnSpec := ⟨f64.ins, f64.outs, [], fun x => f64 x.1 x.2.1⟩
def f64.E (fuel : Nat) : Env := ⟨tis, [], [], [], [], [], 0, [], fuel⟩
theorem f64.run : ∀ x, runFn (f64.E 100000000000000000000) Go.Proofs.Try.f64 ((Go.Proofs.Try.f64.body).getD .skip) f64.S x = f64.S.f x := by intro x; kernel_rfl
theorem f64.sound : Sound Go.Proofs.Try.prog 64 f64.S := sound_of_run (fun _ => f64.E 100000000000000000000) (by kernel_rfl) (by kernel_rfl) (by kernel_rfl) orders (fun _ => ⟨tis_ok, EqsOk.nil _, FnsOk.nil⟩) (fun _ => rfl) (by kernel_rfl) (by kernel_rfl) (fun x r h => (f64.run x).trans h)
/-! f63: adit/grid.kind -/
def f63 (a0 : List Int) (a1 : Int) : Option (Int × Unit) :=
 bif Decidable.decide (a1 < 0) then
  some ((0, ()))
 else
  bif Decidable.decide (a1 ≥ (↑(List.length a0) : Int)) then
   some ((0, ()))
  else
   bif inRange a1 (List.length a0) then
    some ((Go.IntKind.wrap Go.IntKind.i64 (List.getD a0 (Int.toNat a1) 0), ()))
   else
    none
def f63.ins : Shape := ⟨[(0, .c (.row (.int .u8))), (1, .c (.int .i64))], []⟩
def f63.outs : List Shape := [⟨[(0, .c (.int .i64))], []⟩]
def f63.S : FnSpec := ⟨f63.ins, f63.outs, [], fun x => f63 x.1 x.2.1⟩
def f63.E (fuel : Nat) : Env := ⟨tis, [], [], [], [], [], 0, [], fuel⟩
theorem f63.run : ∀ x, runFn (f63.E 100000000000000000000) Go.Proofs.Try.f63 ((Go.Proofs.Try.f63.body).getD .skip) f63.S x = f63.S.f x := by intro x; kernel_rfl
theorem f63.sound : Sound Go.Proofs.Try.prog 63 f63.S := sound_of_run (fun _ => f63.E 100000000000000000000) (by kernel_rfl) (by kernel_rfl) (by kernel_rfl) orders (fun _ => ⟨tis_ok, EqsOk.nil _, FnsOk.nil⟩) (fun _ => rfl) (by kernel_rfl) (by kernel_rfl) (fun x r h => (f63.run x).trans h)
/-! f55: adit/grid.At -/
def f55 (a0 : List Int) (a1 : Int) (a2 : Int) : Option (Int × Unit) :=
 Option.bind (f64 a1 a2) fun y0 =>
  Option.bind (f63 a0 y0.fst) fun y1 =>
   some ((y1.fst, ()))
def f55.ins : Shape := ⟨[(0, .c (.row (.int .u8))), (1, .c (.int .i64)), (2, .c (.int .i64))], []⟩
def f55.outs : List Shape := [⟨[(0, .c (.int .i64))], []⟩]
def f55.S : FnSpec := ⟨f55.ins, f55.outs, [], fun x => f55 x.1 x.2.1 x.2.2.1⟩
def f55.E (fuel : Nat) : Env := ⟨tis, [(64, f64.S), (63, f63.S)], [], [], [], [], 0, [], fuel⟩
theorem f55.run : ∀ x, runFn (f55.E 100000000000000000000) Go.Proofs.Try.f55 ((Go.Proofs.Try.f55.body).getD .skip) f55.S x = f55.S.f x := by intro x; kernel_rfl
theorem f55.sound : Sound Go.Proofs.Try.prog 55 f55.S := sound_of_run (fun _ => f55.E 100000000000000000000) (by kernel_rfl) (by kernel_rfl) (by kernel_rfl) orders (fun _ => ⟨tis_ok, EqsOk.nil _, (FnsOk.cons f64.sound (FnsOk.cons f63.sound FnsOk.nil))⟩) (fun _ => rfl) (by kernel_rfl) (by kernel_rfl) (fun x r h => (f55.run x).trans h)
/-! f56: adit/goods.buy$1 -/
def f56 (a0 : Int) (a1 : Int) (a2 : Int) (a3 : Int) (a4 : Int) : Option (Bool × Unit) :=
 bif a0 != 0 then
  bif a1 == 4 then
   some ((a2 == a4, ()))
  else
   some ((Bool.false, ()))
 else
  some ((Bool.false, ()))
def f56.ins : Shape := ⟨[(0, .agg [.int .i64, .int .i64, .int .i64, .int .i64]), (1, .c (.bptr (.int .i64)))], []⟩
def f56.outs : List Shape := [⟨[(0, .c (.bool))], []⟩]
def f56.S : FnSpec := ⟨f56.ins, f56.outs, [], fun x => f56 x.1 x.2.1 x.2.2.1 x.2.2.2.1 x.2.2.2.2.1⟩
def f56.E (fuel : Nat) : Env := ⟨tis, [], [], [], [], [], 0, [], fuel⟩
theorem f56.run : ∀ x, runFn (f56.E 100000000000000000000) Go.Proofs.Try.f56 ((Go.Proofs.Try.f56.body).getD .skip) f56.S x = f56.S.f x := by intro x; kernel_rfl
theorem f56.sound : Sound Go.Proofs.Try.prog 56 f56.S := sound_of_run (fun _ => f56.E 100000000000000000000) (by kernel_rfl) (by kernel_rfl) (by kernel_rfl) orders (fun _ => ⟨tis_ok, EqsOk.nil _, FnsOk.nil⟩) (fun _ => rfl) (by kernel_rfl) (by kernel_rfl) (fun x r h => (f56.run x).trans h)
/-! f53_1: slices.IndexFunc[[]adit/api.Item,adit/api.Item] -/
def f53_1.L1 (x : List (Int × Int × Int × Int) × Int × Int × Int × Unit) : Option (Int × Int × Unit) :=
 it (X := List (Int × Int × Int × Int) × Int × Int × Int × Unit) (fun rec x =>
 bif Decidable.decide (x.snd.snd.fst < x.snd.fst) then
  bif inRange x.snd.snd.fst (List.length x.fst) then
   Option.bind (f56 (List.getD x.fst (Int.toNat x.snd.snd.fst) (0, 0, 0, 0)).fst (List.getD x.fst (Int.toNat x.snd.snd.fst) (0, 0, 0, 0)).snd.fst (List.getD x.fst (Int.toNat x.snd.snd.fst) (0, 0, 0, 0)).snd.snd.fst (List.getD x.fst (Int.toNat x.snd.snd.fst) (0, 0, 0, 0)).snd.snd.snd x.snd.snd.snd.fst) fun y0 =>
    bif y0.fst then
     some ((x.snd.snd.fst, x.snd.snd.snd.fst, ()))
    else
     rec (x.fst, x.snd.fst, Go.IntKind.wrap Go.IntKind.i64 (x.snd.snd.fst + 1), x.snd.snd.snd.fst, ())
  else
   none
 else
  some ((-1, x.snd.snd.snd.fst, ()))
 ) (100000000000000000000) (x)
def f53_1 (a0 : List (Int × Int × Int × Int)) (a1 : Int) : Option (Int × Int × Unit) :=
 f53_1.L1 ((a0, (↑(List.length a0) : Int), 0, a1, ()))
def f53_1.ins : Shape := ⟨[(0, .c (.row (.prod (.int .i64) (.prod (.int .i64) (.prod (.int .i64) (.int .i64)))))), (1, .c (.fn 56 [0]))], [(0, .box [.int .i64])]⟩
def f53_1.outs : List Shape := [⟨[(0, .c (.int .i64))], [(0, .box [.int .i64])]⟩]
def f53_1.S : FnSpec := ⟨f53_1.ins, f53_1.outs, [0], fun x => f53_1 x.1 x.2.1⟩
def f53_1.E (fuel : Nat) : Env := ⟨tis, [(56, f56.S)], [], [], [(3, ⟨[(0, .c (.row (.prod (.int .i64) (.prod (.int .i64) (.prod (.int .i64) (.int .i64)))))), (1, .c (.fn 56 [0])), (7, .c (.int .i64)), (8, .c (.int .i64))], [(0, .box [.int .i64])]⟩)], [], 1, [0], fuel⟩
theorem f53_1.run : ∀ x, runFn (f53_1.E 100000000000000000000) Go.Proofs.Try.f53 ((Go.Proofs.Try.f53.body).getD .skip) f53_1.S x = f53_1.S.f x := by intro x; kernel_rfl
theorem f53_1.sound : Sound Go.Proofs.Try.prog 53 f53_1.S := sound_of_run (fun _ => f53_1.E 100000000000000000000) (by kernel_rfl) (by kernel_rfl) (by kernel_rfl) orders (fun _ => ⟨tis_ok, EqsOk.nil _, (FnsOk.cons f56.sound FnsOk.nil)⟩) (fun _ => rfl) (by kernel_rfl) (by kernel_rfl) (fun x r h => (f53_1.run x).trans h)
/-! f33: adit/goods.buy -/
def f33.L1 (x : Int × Int × Int × Int × Int × Int × Int × Int × Int × Int × List Int × List (Int × Int × Int × Int × Int × Int × Int × Int × Int × Int × Int) × List (Int × Int × Int × Int) × Unit) : Option (Int × Int × Int × Int × Int × Int × Int × Int × List Int × List (Int × Int × Int × Int × Int × Int × Int × Int × Int × Int × Int) × List (Int × Int × Int × Int) × Unit) :=
 it (X := Int × Int × Int × Int × Int × Int × Int × Int × Int × Int × List Int × List (Int × Int × Int × Int × Int × Int × Int × Int × Int × Int × Int) × List (Int × Int × Int × Int) × Unit) (fun rec x =>
 bif Decidable.decide (x.snd.fst < 3) then
  Option.bind (f53_1 x.snd.snd.snd.snd.snd.snd.snd.snd.snd.snd.snd.snd.fst x.snd.fst) fun y0 =>
   bif Decidable.decide (y0.fst ≥ 0) then
    Option.bind (f49 x.snd.snd.fst x.snd.snd.snd.fst x.snd.snd.snd.snd.fst x.snd.snd.snd.snd.snd.fst x.snd.snd.snd.snd.snd.snd.fst x.snd.snd.snd.snd.snd.snd.snd.fst x.snd.snd.snd.snd.snd.snd.snd.snd.fst x.snd.snd.snd.snd.snd.snd.snd.snd.snd.fst x.fst y0.fst x.snd.snd.snd.snd.snd.snd.snd.snd.snd.snd.fst x.snd.snd.snd.snd.snd.snd.snd.snd.snd.snd.snd.fst x.snd.snd.snd.snd.snd.snd.snd.snd.snd.snd.snd.snd.fst) fun y1 =>
     bif y1.fst then
      bif inRange x.fst 4 then
       bif inRange x.fst 4 then
        some ((x.snd.snd.fst, x.snd.snd.snd.fst, x.snd.snd.snd.snd.fst, x.snd.snd.snd.snd.snd.fst, if Int.toNat x.fst = 0 / 1 then Go.IntKind.wrap Go.IntKind.i64 (List.getD [x.snd.snd.snd.snd.snd.snd.fst, x.snd.snd.snd.snd.snd.snd.snd.fst, x.snd.snd.snd.snd.snd.snd.snd.snd.fst, x.snd.snd.snd.snd.snd.snd.snd.snd.snd.fst] (Int.toNat x.fst) 0 - 5) else x.snd.snd.snd.snd.snd.snd.fst, if Int.toNat x.fst = (0 + 1) / 1 then Go.IntKind.wrap Go.IntKind.i64 (List.getD [x.snd.snd.snd.snd.snd.snd.fst, x.snd.snd.snd.snd.snd.snd.snd.fst, x.snd.snd.snd.snd.snd.snd.snd.snd.fst, x.snd.snd.snd.snd.snd.snd.snd.snd.snd.fst] (Int.toNat x.fst) 0 - 5) else x.snd.snd.snd.snd.snd.snd.snd.fst, if Int.toNat x.fst = (0 + 1 + 1) / 1 then Go.IntKind.wrap Go.IntKind.i64 (List.getD [x.snd.snd.snd.snd.snd.snd.fst, x.snd.snd.snd.snd.snd.snd.snd.fst, x.snd.snd.snd.snd.snd.snd.snd.snd.fst, x.snd.snd.snd.snd.snd.snd.snd.snd.snd.fst] (Int.toNat x.fst) 0 - 5) else x.snd.snd.snd.snd.snd.snd.snd.snd.fst, if Int.toNat x.fst = (0 + 1 + 1 + 1) / 1 then Go.IntKind.wrap Go.IntKind.i64 (List.getD [x.snd.snd.snd.snd.snd.snd.fst, x.snd.snd.snd.snd.snd.snd.snd.fst, x.snd.snd.snd.snd.snd.snd.snd.snd.fst, x.snd.snd.snd.snd.snd.snd.snd.snd.snd.fst] (Int.toNat x.fst) 0 - 5) else x.snd.snd.snd.snd.snd.snd.snd.snd.snd.fst, y1.snd.fst, y1.snd.snd.fst, y1.snd.snd.snd.fst, ()))
       else
        none
      else
       none
     else
      some ((x.snd.snd.fst, x.snd.snd.snd.fst, x.snd.snd.snd.snd.fst, x.snd.snd.snd.snd.snd.fst, x.snd.snd.snd.snd.snd.snd.fst, x.snd.snd.snd.snd.snd.snd.snd.fst, x.snd.snd.snd.snd.snd.snd.snd.snd.fst, x.snd.snd.snd.snd.snd.snd.snd.snd.snd.fst, y1.snd.fst, y1.snd.snd.fst, y1.snd.snd.snd.fst, ()))
   else
    rec (x.fst, Go.IntKind.wrap Go.IntKind.i64 (x.snd.fst + 1), x.snd.snd.fst, x.snd.snd.snd.fst, x.snd.snd.snd.snd.fst, x.snd.snd.snd.snd.snd.fst, x.snd.snd.snd.snd.snd.snd.fst, x.snd.snd.snd.snd.snd.snd.snd.fst, x.snd.snd.snd.snd.snd.snd.snd.snd.fst, x.snd.snd.snd.snd.snd.snd.snd.snd.snd.fst, x.snd.snd.snd.snd.snd.snd.snd.snd.snd.snd.fst, x.snd.snd.snd.snd.snd.snd.snd.snd.snd.snd.snd.fst, x.snd.snd.snd.snd.snd.snd.snd.snd.snd.snd.snd.snd.fst, ())
 else
  some ((x.snd.snd.fst, x.snd.snd.snd.fst, x.snd.snd.snd.snd.fst, x.snd.snd.snd.snd.snd.fst, x.snd.snd.snd.snd.snd.snd.fst, x.snd.snd.snd.snd.snd.snd.snd.fst, x.snd.snd.snd.snd.snd.snd.snd.snd.fst, x.snd.snd.snd.snd.snd.snd.snd.snd.snd.fst, x.snd.snd.snd.snd.snd.snd.snd.snd.snd.snd.fst, x.snd.snd.snd.snd.snd.snd.snd.snd.snd.snd.snd.fst, x.snd.snd.snd.snd.snd.snd.snd.snd.snd.snd.snd.snd.fst, ()))
 ) (100000000000000000000) (x)
def f33 (a0 : Int) (a1 : Int) (a2 : Int) (a3 : Int) (a4 : Int) (a5 : Int) (a6 : Int) (a7 : Int) (a8 : Int) (a9 : Int) (a10 : Int) (a11 : Int) (a12 : Int) (a13 : Int) (a14 : Int) (a15 : Int) (a16 : Int) (a17 : Int) (a18 : Int) (a19 : Int) (a20 : List Int) (a21 : List (Int × Int × Int × Int × Int × Int × Int × Int × Int × Int × Int)) (a22 : List (Int × Int × Int × Int)) : Option (Int × Int × Int × Int × Int × Int × Int × Int × List Int × List (Int × Int × Int × Int × Int × Int × Int × Int × Int × Int × Int) × List (Int × Int × Int × Int) × Unit) :=
 Option.bind (f55 a20 a4 a5) fun y0 =>
  bif y0.fst != 5 then
   some ((a12, a13, a14, a15, a16, a17, a18, a19, a20, a21, a22, ()))
  else
   bif inRange a0 4 then
    bif Decidable.decide (List.getD [a16, a17, a18, a19] (Int.toNat a0) 0 < 5) then
     some ((a12, a13, a14, a15, a16, a17, a18, a19, a20, a21, a22, ()))
    else
     f33.L1 ((a0, 0, a12, a13, a14, a15, a16, a17, a18, a19, a20, a21, a22, ()))
   else
    none
def f33.ins : Shape := ⟨[(0, .c (.ptr 0 0)), (1, .c (.int .i64)), (2, .agg [.int .i64, .int .i64, .int .i64, .int .i64, .int .i64, .int .i64, .int .i64, .int .i64, .int .i64, .int .i64, .int .i64])], [(0, .box [.int .i64, .int .i64, .int .i64, .int .i64, .own 1, .own 2, .own 3, .int .i64, .int .i64, .int .i64, .int .i64]), (1, .arr (.int .u8)), (2, .arr (.prod (.int .i64) (.prod (.int .i64) (.prod (.int .i64) (.prod (.int .i64) (.prod (.int .i64) (.prod (.int .i64) (.prod (.int .i64) (.prod (.int .i64) (.prod (.int .i64) (.prod (.int .i64) (.int .i64)))))))))))), (3, .arr (.prod (.int .i64) (.prod (.int .i64) (.prod (.int .i64) (.int .i64)))))]⟩
def f33.outs : List Shape := [⟨[], [(0, .box [.int .i64, .int .i64, .int .i64, .int .i64, .own 1, .own 2, .own 3, .int .i64, .int .i64, .int .i64, .int .i64]), (1, .arr (.int .u8)), (2, .arr (.prod (.int .i64) (.prod (.int .i64) (.prod (.int .i64) (.prod (.int .i64) (.prod (.int .i64) (.prod (.int .i64) (.prod (.int .i64) (.prod (.int .i64) (.prod (.int .i64) (.prod (.int .i64) (.int .i64)))))))))))), (3, .arr (.prod (.int .i64) (.prod (.int .i64) (.prod (.int .i64) (.int .i64)))))]⟩]
def f33.S : FnSpec := ⟨f33.ins, f33.outs, [0, 1, 2, 3], fun x => f33 x.1 x.2.1 x.2.2.1 x.2.2.2.1 x.2.2.2.2.1 x.2.2.2.2.2.1 x.2.2.2.2.2.2.1 x.2.2.2.2.2.2.2.1 x.2.2.2.2.2.2.2.2.1 x.2.2.2.2.2.2.2.2.2.1 x.2.2.2.2.2.2.2.2.2.2.1 x.2.2.2.2.2.2.2.2.2.2.2.1 x.2.2.2.2.2.2.2.2.2.2.2.2.1 x.2.2.2.2.2.2.2.2.2.2.2.2.2.1 x.2.2.2.2.2.2.2.2.2.2.2.2.2.2.1 x.2.2.2.2.2.2.2.2.2.2.2.2.2.2.2.1 x.2.2.2.2.2.2.2.2.2.2.2.2.2.2.2.2.1 x.2.2.2.2.2.2.2.2.2.2.2.2.2.2.2.2.2.1 x.2.2.2.2.2.2.2.2.2.2.2.2.2.2.2.2.2.2.1 x.2.2.2.2.2.2.2.2.2.2.2.2.2.2.2.2.2.2.2.1 x.2.2.2.2.2.2.2.2.2.2.2.2.2.2.2.2.2.2.2.2.1 x.2.2.2.2.2.2.2.2.2.2.2.2.2.2.2.2.2.2.2.2.2.1 x.2.2.2.2.2.2.2.2.2.2.2.2.2.2.2.2.2.2.2.2.2.2.1⟩
def f33.E (fuel : Nat) : Env := ⟨tis, [(49, f49.S), (55, f55.S), (53, f53_1.S)], [], [], [(4, ⟨[(0, .c (.ptr 0 0)), (1, .c (.int .i64)), (27, .c (.int .i64))], [(0, .box [.int .i64, .int .i64, .int .i64, .int .i64, .own 1, .own 2, .own 3, .int .i64, .int .i64, .int .i64, .int .i64]), (1, .arr (.int .u8)), (2, .arr (.prod (.int .i64) (.prod (.int .i64) (.prod (.int .i64) (.prod (.int .i64) (.prod (.int .i64) (.prod (.int .i64) (.prod (.int .i64) (.prod (.int .i64) (.prod (.int .i64) (.prod (.int .i64) (.int .i64)))))))))))), (3, .arr (.prod (.int .i64) (.prod (.int .i64) (.prod (.int .i64) (.int .i64)))))]⟩)], [], 4, [0, 1, 2, 3], fuel⟩
theorem f33.run : ∀ x, runFn (f33.E 100000000000000000000) Go.Proofs.Try.f33 ((Go.Proofs.Try.f33.body).getD .skip) f33.S x = f33.S.f x := by intro x; kernel_rfl
theorem f33.sound : Sound Go.Proofs.Try.prog 33 f33.S := sound_of_run (fun _ => f33.E 100000000000000000000) (by kernel_rfl) (by kernel_rfl) (by kernel_rfl) orders (fun _ => ⟨tis_ok, EqsOk.nil _, (FnsOk.cons f49.sound (FnsOk.cons f55.sound (FnsOk.cons f53_1.sound FnsOk.nil)))⟩) (fun _ => rfl) (by kernel_rfl) (by kernel_rfl) (fun x r h => (f33.run x).trans h)
end
end Go.Proofs.Ytdbfecfcoephoaa.Run

/- Functions of the program as Lean functions: printed by a tool of this session (own work). -/
import Derived.Test.YtjmbmpeflhkngaaProg
import Derived.Test.YtjmbmpeflhkngaaZ8
namespace Go.Proofs.Ytjmbmpeflhkngaa.Run
open Go Go.Proofs.Ytjmbmpeflhkngaa.Mx
abbrev E11 := Int × Int × Int × Int × Int × Int × Int × Int × Int × Int × Int
set_option autoImplicit false
set_option linter.unusedVariables false
set_option maxRecDepth 100000
set_option maxHeartbeats 4000000
noncomputable section
def ty2 : TI := ⟨.int .i64, 1, 8, [.int .i64 0], some (.int .i64)⟩
def ty3 : TI := ⟨.int .i64, 1, 8, [.int .i64 0], some (.int .i64)⟩
def ty4 : TI := ⟨.bool, 1, 1, [.bool false], some .bool⟩
def ty5 : TI := ⟨.int .u8, 1, 1, [.int .u8 0], some (.int .u8)⟩
def ty22 : TI := ⟨.slice 3, 1, 24, [.nils], some (.row (.int .i64))⟩
def ty23 : TI := ⟨.slice 57, 1, 24, [.nils], some (.row (.prod (.int .i64) (.prod (.int .i64) (.prod (.int .i64) (.int .i64)))))⟩
def ty25 : TI := ⟨.slice 5, 1, 24, [.nils], some (.row (.int .u8))⟩
def ty26 : TI := ⟨.slice 36, 1, 24, [.nils], some (.row (.prod (.int .i64) (.prod (.int .i64) (.prod (.int .i64) (.prod (.int .i64) (.prod (.int .i64) (.prod (.int .i64) (.prod (.int .i64) (.prod (.int .i64) (.prod (.int .i64) (.prod (.int .i64) (.int .i64))))))))))))⟩
def ty27 : TI := ⟨.arr 4 3, 4, 32, [.int .i64 0, .int .i64 0, .int .i64 0, .int .i64 0], some (.prod (.int .i64) (.prod (.int .i64) (.prod (.int .i64) (.int .i64))))⟩
def ty29 : TI := ⟨.struct [(0, 2), (1, 3), (2, 3), (3, 3), (4, 25), (5, 26), (6, 23), (7, 27)], 11, 136, [.int .i64 0, .int .i64 0, .int .i64 0, .int .i64 0, .nils, .nils, .nils, .int .i64 0, .int .i64 0, .int .i64 0, .int .i64 0], some (.prod (.int .i64) (.prod (.int .i64) (.prod (.int .i64) (.prod (.int .i64) (.prod (.row (.int .u8)) (.prod (.row (.prod (.int .i64) (.prod (.int .i64) (.prod (.int .i64) (.prod (.int .i64) (.prod (.int .i64) (.prod (.int .i64) (.prod (.int .i64) (.prod (.int .i64) (.prod (.int .i64) (.prod (.int .i64) (.int .i64)))))))))))) (.prod (.row (.prod (.int .i64) (.prod (.int .i64) (.prod (.int .i64) (.int .i64))))) (.prod (.int .i64) (.prod (.int .i64) (.prod (.int .i64) (.int .i64)))))))))))⟩
def ty36 : TI := ⟨.struct [(0, 3), (1, 3), (2, 3), (3, 3), (4, 3), (5, 3), (6, 3), (7, 3), (8, 3), (9, 3), (10, 3)], 11, 88, [.int .i64 0, .int .i64 0, .int .i64 0, .int .i64 0, .int .i64 0, .int .i64 0, .int .i64 0, .int .i64 0, .int .i64 0, .int .i64 0, .int .i64 0], some (.prod (.int .i64) (.prod (.int .i64) (.prod (.int .i64) (.prod (.int .i64) (.prod (.int .i64) (.prod (.int .i64) (.prod (.int .i64) (.prod (.int .i64) (.prod (.int .i64) (.prod (.int .i64) (.int .i64)))))))))))⟩
def ty57 : TI := ⟨.struct [(0, 3), (1, 3), (2, 3), (3, 3)], 4, 32, [.int .i64 0, .int .i64 0, .int .i64 0, .int .i64 0], some (.prod (.int .i64) (.prod (.int .i64) (.prod (.int .i64) (.int .i64))))⟩
def ty69 : TI := ⟨.struct [(0, 25), (1, 26), (2, 23)], 3, 72, [.nils, .nils, .nils], some (.prod (.row (.int .u8)) (.prod (.row (.prod (.int .i64) (.prod (.int .i64) (.prod (.int .i64) (.prod (.int .i64) (.prod (.int .i64) (.prod (.int .i64) (.prod (.int .i64) (.prod (.int .i64) (.prod (.int .i64) (.prod (.int .i64) (.int .i64)))))))))))) (.row (.prod (.int .i64) (.prod (.int .i64) (.prod (.int .i64) (.int .i64)))))))⟩
def ty71 : TI := ⟨.slice 4, 1, 24, [.nils], some (.row .bool)⟩
def ty78 : TI := ⟨.int .u64, 1, 8, [.int .u64 0], some (.int .u64)⟩
def ty80 : TI := ⟨.arr 6 3, 6, 48, [.int .i64 0, .int .i64 0, .int .i64 0, .int .i64 0, .int .i64 0, .int .i64 0], some (.prod (.int .i64) (.prod (.int .i64) (.prod (.int .i64) (.prod (.int .i64) (.prod (.int .i64) (.int .i64))))))⟩
def ty110 : TI := ⟨.flt .f64, 1, 8, [.fint 0], none⟩
def ty114 : TI := ⟨.struct [(0, 3), (1, 3)], 2, 16, [.int .i64 0, .int .i64 0], some (.prod (.int .i64) (.int .i64))⟩
def tis : List (Nat × TI) := [(2, ty2), (3, ty3), (4, ty4), (5, ty5), (22, ty22), (23, ty23), (25, ty25), (26, ty26), (27, ty27), (29, ty29), (36, ty36), (57, ty57), (69, ty69), (71, ty71), (78, ty78), (80, ty80), (110, ty110), (114, ty114)]
theorem ty2_ok : TIok Go.Proofs.Try.prog 2 ty2 := ⟨by kernel_rfl, by kernel_rfl, by kernel_rfl, by kernel_rfl, by kernel_rfl, by kernel_rfl, by kernel_rfl, by kernel_rfl⟩
theorem ty3_ok : TIok Go.Proofs.Try.prog 3 ty3 := ⟨by kernel_rfl, by kernel_rfl, by kernel_rfl, by kernel_rfl, by kernel_rfl, by kernel_rfl, by kernel_rfl, by kernel_rfl⟩
theorem ty4_ok : TIok Go.Proofs.Try.prog 4 ty4 := ⟨by kernel_rfl, by kernel_rfl, by kernel_rfl, by kernel_rfl, by kernel_rfl, by kernel_rfl, by kernel_rfl, by kernel_rfl⟩
theorem ty5_ok : TIok Go.Proofs.Try.prog 5 ty5 := ⟨by kernel_rfl, by kernel_rfl, by kernel_rfl, by kernel_rfl, by kernel_rfl, by kernel_rfl, by kernel_rfl, by kernel_rfl⟩
theorem ty22_ok : TIok Go.Proofs.Try.prog 22 ty22 := ⟨by kernel_rfl, by kernel_rfl, by kernel_rfl, by kernel_rfl, by kernel_rfl, by kernel_rfl, by kernel_rfl, by kernel_rfl⟩
theorem ty23_ok : TIok Go.Proofs.Try.prog 23 ty23 := ⟨by kernel_rfl, by kernel_rfl, by kernel_rfl, by kernel_rfl, by kernel_rfl, by kernel_rfl, by kernel_rfl, by kernel_rfl⟩
theorem ty25_ok : TIok Go.Proofs.Try.prog 25 ty25 := ⟨by kernel_rfl, by kernel_rfl, by kernel_rfl, by kernel_rfl, by kernel_rfl, by kernel_rfl, by kernel_rfl, by kernel_rfl⟩
theorem ty26_ok : TIok Go.Proofs.Try.prog 26 ty26 := ⟨by kernel_rfl, by kernel_rfl, by kernel_rfl, by kernel_rfl, by kernel_rfl, by kernel_rfl, by kernel_rfl, by kernel_rfl⟩
theorem ty27_ok : TIok Go.Proofs.Try.prog 27 ty27 := ⟨by kernel_rfl, by kernel_rfl, by kernel_rfl, by kernel_rfl, by kernel_rfl, by kernel_rfl, by kernel_rfl, by kernel_rfl⟩
theorem ty29_ok : TIok Go.Proofs.Try.prog 29 ty29 := ⟨by kernel_rfl, by kernel_rfl, by kernel_rfl, by kernel_rfl, by kernel_rfl, by kernel_rfl, by kernel_rfl, by kernel_rfl⟩
theorem ty36_ok : TIok Go.Proofs.Try.prog 36 ty36 := ⟨by kernel_rfl, by kernel_rfl, by kernel_rfl, by kernel_rfl, by kernel_rfl, by kernel_rfl, by kernel_rfl, by kernel_rfl⟩
theorem ty57_ok : TIok Go.Proofs.Try.prog 57 ty57 := ⟨by kernel_rfl, by kernel_rfl, by kernel_rfl, by kernel_rfl, by kernel_rfl, by kernel_rfl, by kernel_rfl, by kernel_rfl⟩
theorem ty69_ok : TIok Go.Proofs.Try.prog 69 ty69 := ⟨by kernel_rfl, by kernel_rfl, by kernel_rfl, by kernel_rfl, by kernel_rfl, by kernel_rfl, by kernel_rfl, by kernel_rfl⟩
theorem ty71_ok : TIok Go.Proofs.Try.prog 71 ty71 := ⟨by kernel_rfl, by kernel_rfl, by kernel_rfl, by kernel_rfl, by kernel_rfl, by kernel_rfl, by kernel_rfl, by kernel_rfl⟩
theorem ty78_ok : TIok Go.Proofs.Try.prog 78 ty78 := ⟨by kernel_rfl, by kernel_rfl, by kernel_rfl, by kernel_rfl, by kernel_rfl, by kernel_rfl, by kernel_rfl, by kernel_rfl⟩
theorem ty80_ok : TIok Go.Proofs.Try.prog 80 ty80 := ⟨by kernel_rfl, by kernel_rfl, by kernel_rfl, by kernel_rfl, by kernel_rfl, by kernel_rfl, by kernel_rfl, by kernel_rfl⟩
theorem ty110_ok : TIok Go.Proofs.Try.prog 110 ty110 := ⟨by kernel_rfl, by kernel_rfl, by kernel_rfl, by kernel_rfl, by kernel_rfl, by kernel_rfl, by kernel_rfl, by kernel_rfl⟩
theorem ty114_ok : TIok Go.Proofs.Try.prog 114 ty114 := ⟨by kernel_rfl, by kernel_rfl, by kernel_rfl, by kernel_rfl, by kernel_rfl, by kernel_rfl, by kernel_rfl, by kernel_rfl⟩
theorem tis_ok : TIs Go.Proofs.Try.prog tis := (TIs.cons ty2_ok (TIs.cons ty3_ok (TIs.cons ty4_ok (TIs.cons ty5_ok (TIs.cons ty22_ok (TIs.cons ty23_ok (TIs.cons ty25_ok (TIs.cons ty26_ok (TIs.cons ty27_ok (TIs.cons ty29_ok (TIs.cons ty36_ok (TIs.cons ty57_ok (TIs.cons ty69_ok (TIs.cons ty71_ok (TIs.cons ty78_ok (TIs.cons ty80_ok (TIs.cons ty110_ok (TIs.cons ty114_ok (TIs.nil _)))))))))))))))))))
theorem orders : Go.Proofs.Try.prog.follows .mixedOrders = true := by kernel_rfl
theorem eq114 : EqOk Go.Proofs.Try.prog 114 [.int .i64, .int .i64] := eqok_of (by kernel_rfl) (by kernel_rfl) (by kernel_rfl) (by kernel_rfl)
/-! f39: adit/aditlaw7.within -/
def f39 (a0 : Int) (a1 : Int) : Option (Int × Unit) :=
 bif decide (a1 = 0) then
 none
 else
 Option.bind (α := Int × Unit ⊕ Int × Unit) (
 bif decide (Int.tmod a0 a1 < 0) then
 some (Sum.inl (IntKind.wrap .i64 (Int.tmod a0 a1 + a1), ()))
 else
 some (Sum.inl (Int.tmod a0 a1, ()))
 ) fun y0 =>
 Sum.elim (fun y1 =>
 some ((y1.1, ()))
 ) (fun z2 =>
 some (z2)
 ) (y0)
def f39.ins : Shape := ⟨[(0, .c (.int .i64)), (1, .c (.int .i64))], []⟩
def f39.outs : List Shape := [⟨[(0, .c (.int .i64))], []⟩]
def f39.S : FnSpec := ⟨f39.ins, f39.outs, [], fun x => f39 x.1 x.2.1⟩
def f39.E (fuel : Nat) : Env := ⟨tis, [], [], [(5, ⟨[(5, .c (.int .i64))], []⟩)], [], [], 0, [], fuel⟩
theorem f39.run : ∀ x, runFn (f39.E 100000000000000000000) Go.Proofs.Try.f39 ((Go.Proofs.Try.f39.body).getD .skip) f39.S x = f39.S.f x := by intro x; kernel_rfl
theorem f39.sound : Sound Go.Proofs.Try.prog 39 f39.S := sound_of_run (fun _ => f39.E 100000000000000000000) (by kernel_rfl) (by kernel_rfl) (by kernel_rfl) orders (fun _ => ⟨tis_ok, EqsOk.nil _, FnsOk.nil⟩) (fun _ => rfl) (by kernel_rfl) (by kernel_rfl) (fun x r h => (f39.run x).trans h)
/-! f51: adit/aditref2.m -/
def f51 (a0 : Int) : Option (Int × Unit) :=
 some ((IntKind.wrap .u64 (↑(BitVec.toNat (BitVec.ofInt (IntKind.bits IntKind.u64) (IntKind.wrap .u64 (IntKind.wrap .u64 (↑(BitVec.toNat (BitVec.ofInt (IntKind.bits IntKind.u64) (IntKind.wrap .u64 (IntKind.wrap .u64 (↑(BitVec.toNat (BitVec.ofInt (IntKind.bits IntKind.u64) a0 ^^^ BitVec.ofInt (IntKind.bits IntKind.u64) (Int.fdiv a0 (2 ^ Min.min 30 (IntKind.bits IntKind.u64))))) : Int) * 13787848793156543929)) ^^^ BitVec.ofInt (IntKind.bits IntKind.u64) (Int.fdiv (IntKind.wrap .u64 (IntKind.wrap .u64 (↑(BitVec.toNat (BitVec.ofInt (IntKind.bits IntKind.u64) a0 ^^^ BitVec.ofInt (IntKind.bits IntKind.u64) (Int.fdiv a0 (2 ^ Min.min 30 (IntKind.bits IntKind.u64))))) : Int) * 13787848793156543929)) (2 ^ Min.min 27 (IntKind.bits IntKind.u64))))) : Int) * 10723151780598845931)) ^^^ BitVec.ofInt (IntKind.bits IntKind.u64) (Int.fdiv (IntKind.wrap .u64 (IntKind.wrap .u64 (↑(BitVec.toNat (BitVec.ofInt (IntKind.bits IntKind.u64) (IntKind.wrap .u64 (IntKind.wrap .u64 (↑(BitVec.toNat (BitVec.ofInt (IntKind.bits IntKind.u64) a0 ^^^ BitVec.ofInt (IntKind.bits IntKind.u64) (Int.fdiv a0 (2 ^ Min.min 30 (IntKind.bits IntKind.u64))))) : Int) * 13787848793156543929)) ^^^ BitVec.ofInt (IntKind.bits IntKind.u64) (Int.fdiv (IntKind.wrap .u64 (IntKind.wrap .u64 (↑(BitVec.toNat (BitVec.ofInt (IntKind.bits IntKind.u64) a0 ^^^ BitVec.ofInt (IntKind.bits IntKind.u64) (Int.fdiv a0 (2 ^ Min.min 30 (IntKind.bits IntKind.u64))))) : Int) * 13787848793156543929)) (2 ^ Min.min 27 (IntKind.bits IntKind.u64))))) : Int) * 10723151780598845931)) (2 ^ Min.min 31 (IntKind.bits IntKind.u64))))) : Int), ()))
def f51.ins : Shape := ⟨[(0, .c (.int .u64))], []⟩
def f51.outs : List Shape := [⟨[(0, .c (.int .u64))], []⟩]
def f51.S : FnSpec := ⟨f51.ins, f51.outs, [], fun x => f51 x.1⟩
def f51.E (fuel : Nat) : Env := ⟨tis, [], [], [], [], [], 0, [], fuel⟩
theorem f51.run : ∀ x, runFn (f51.E 100000000000000000000) Go.Proofs.Try.f51 ((Go.Proofs.Try.f51.body).getD .skip) f51.S x = f51.S.f x := by intro x; kernel_rfl
theorem f51.sound : Sound Go.Proofs.Try.prog 51 f51.S := sound_of_run (fun _ => f51.E 100000000000000000000) (by kernel_rfl) (by kernel_rfl) (by kernel_rfl) orders (fun _ => ⟨tis_ok, EqsOk.nil _, FnsOk.nil⟩) (fun _ => rfl) (by kernel_rfl) (by kernel_rfl) (fun x r h => (f51.run x).trans h)
/-! f45: adit/aditref2.Mix -/
def f45.L1 (x : List Int × Int × Int × Unit) : Option (Int × Unit) :=
 it (X := List Int × Int × Int × Unit) (fun rec x =>
 bif decide (x.2.2.1 < (↑(List.length x.1) : Int)) then
 bif inRange x.2.2.1 (List.length x.1) then
 Option.bind (f51 (IntKind.wrap .u64 (IntKind.wrap .u64 (↑(BitVec.toNat (BitVec.ofInt (IntKind.bits IntKind.u64) x.2.1 ^^^ BitVec.ofInt (IntKind.bits IntKind.u64) (IntKind.wrap .u64 (List.getD x.1 (Int.toNat x.2.2.1) 0)))) : Int) + 11400714819323198485))) fun y0 =>
 rec (x.1, y0.1, IntKind.wrap .i64 (x.2.2.1 + 1), ())
 else
 none
 else
 some ((x.2.1, ()))
 ) (100000000000000000000) (x)
def f45 (a0 : Int) (a1 : List Int) : Option (Int × Unit) :=
 Option.bind (f51 (IntKind.wrap .u64 (IntKind.wrap .u64 a0 + 11400714819323198485))) fun y0 =>
 f45.L1 ((a1, y0.1, 0, ()))
def f45.ins : Shape := ⟨[(0, .c (.int .i64)), (1, .c (.row (.int .i64)))], []⟩
def f45.outs : List Shape := [⟨[(0, .c (.int .u64))], []⟩]
def f45.S : FnSpec := ⟨f45.ins, f45.outs, [], fun x => f45 x.1 x.2.1⟩
def f45.E (fuel : Nat) : Env := ⟨tis, [(51, f51.S)], [], [], [(4, ⟨[(1, .c (.row (.int .i64))), (5, .c (.int .u64)), (6, .c (.int .i64))], []⟩)], [], 0, [], fuel⟩
theorem f45.run : ∀ x, runFn (f45.E 100000000000000000000) Go.Proofs.Try.f45 ((Go.Proofs.Try.f45.body).getD .skip) f45.S x = f45.S.f x := by intro x; kernel_rfl
theorem f45.sound : Sound Go.Proofs.Try.prog 45 f45.S := sound_of_run (fun _ => f45.E 100000000000000000000) (by kernel_rfl) (by kernel_rfl) (by kernel_rfl) orders (fun _ => ⟨tis_ok, EqsOk.nil _, (FnsOk.cons f51.sound FnsOk.nil)⟩) (fun _ => rfl) (by kernel_rfl) (by kernel_rfl) (fun x r h => (f45.run x).trans h)
/-! f35: adit/aditref2.Die -/
def f35 (a0 : Int) (a1 : Int) (a2 : List Int) : Option (Int × Unit) :=
 bif decide (a0 < 1) then
 some ((0, ()))
 else
 Option.bind (f45 a1 a2) fun y0 =>
 bif decide (IntKind.wrap .u64 a0 = 0) then
 none
 else
 some ((IntKind.wrap .i64 (Int.tmod y0.1 (IntKind.wrap .u64 a0)), ()))
def f35.ins : Shape := ⟨[(0, .c (.int .i64)), (1, .c (.int .i64)), (2, .c (.row (.int .i64)))], []⟩
def f35.outs : List Shape := [⟨[(0, .c (.int .i64))], []⟩]
def f35.S : FnSpec := ⟨f35.ins, f35.outs, [], fun x => f35 x.1 x.2.1 x.2.2.1⟩
def f35.E (fuel : Nat) : Env := ⟨tis, [(45, f45.S)], [], [], [], [], 0, [], fuel⟩
theorem f35.run : ∀ x, runFn (f35.E 100000000000000000000) Go.Proofs.Try.f35 ((Go.Proofs.Try.f35.body).getD .skip) f35.S x = f35.S.f x := by intro x; kernel_rfl
theorem f35.sound : Sound Go.Proofs.Try.prog 35 f35.S := sound_of_run (fun _ => f35.E 100000000000000000000) (by kernel_rfl) (by kernel_rfl) (by kernel_rfl) orders (fun _ => ⟨tis_ok, EqsOk.nil _, (FnsOk.cons f45.sound FnsOk.nil)⟩) (fun _ => rfl) (by kernel_rfl) (by kernel_rfl) (fun x r h => (f35.run x).trans h)
/-! f46: adit/aditref4.d -/
def f46 (a0 : Int) (a1 : Int) (a2 : Int) (a3 : Int) (a4 : Int) : Option (Int × Unit) :=
 Option.bind (f35 a4 a0 [a1, a2, a3]) fun y0 =>
 some ((y0.1, ()))
def f46.ins : Shape := ⟨[(0, .c (.int .i64)), (1, .c (.int .i64)), (2, .c (.int .i64)), (3, .c (.int .i64)), (4, .c (.int .i64))], []⟩
def f46.outs : List Shape := [⟨[(0, .c (.int .i64))], []⟩]
def f46.S : FnSpec := ⟨f46.ins, f46.outs, [], fun x => f46 x.1 x.2.1 x.2.2.1 x.2.2.2.1 x.2.2.2.2.1⟩
def f46.E (fuel : Nat) : Env := ⟨tis, [(35, f35.S)], [], [], [], [], 0, [], fuel⟩
theorem f46.run : ∀ x, runFn (f46.E 100000000000000000000) Go.Proofs.Try.f46 ((Go.Proofs.Try.f46.body).getD .skip) f46.S x = f46.S.f x := by intro x; kernel_rfl
theorem f46.sound : Sound Go.Proofs.Try.prog 46 f46.S := sound_of_run (fun _ => f46.E 100000000000000000000) (by kernel_rfl) (by kernel_rfl) (by kernel_rfl) orders (fun _ => ⟨tis_ok, EqsOk.nil _, (FnsOk.cons f35.sound FnsOk.nil)⟩) (fun _ => rfl) (by kernel_rfl) (by kernel_rfl) (fun x r h => (f46.run x).trans h)
/-! f47: adit/aditref4.dig -/
def f47 (a0 : Int) (a1 : Int) (a2 : Bool) (a3 : List Int) : Option (Bool × List Int × Unit) :=
 bif inRange (IntKind.wrap .i64 (IntKind.wrap .i64 (a1 * 24) + a0)) (List.length a3) then
 bif List.getD a3 (Int.toNat (IntKind.wrap .i64 (IntKind.wrap .i64 (a1 * 24) + a0))) 0 != 0 then
 some ((a2, a3, ()))
 else
 bif inRange (IntKind.wrap .i64 (IntKind.wrap .i64 (a1 * 24) + a0)) (List.length a3) then
 bif !a2 then
 bif inRange (IntKind.wrap .i64 (IntKind.wrap .i64 (a1 * 24) + a0)) (List.length (List.set a3 (Int.toNat (IntKind.wrap .i64 (IntKind.wrap .i64 (a1 * 24) + a0))) 1)) then
 some ((Bool.true, List.set (List.set a3 (Int.toNat (IntKind.wrap .i64 (IntKind.wrap .i64 (a1 * 24) + a0))) 1) (Int.toNat (IntKind.wrap .i64 (IntKind.wrap .i64 (a1 * 24) + a0))) 2, ()))
 else
 none
 else
 some ((Bool.true, List.set a3 (Int.toNat (IntKind.wrap .i64 (IntKind.wrap .i64 (a1 * 24) + a0))) 1, ()))
 else
 none
 else
 none
def f47.ins : Shape := ⟨[(0, .c (.own 0)), (1, .c (.int .i64)), (2, .c (.int .i64)), (3, .c (.bool))], [(0, .arr (.int .u8))]⟩
def f47.outs : List Shape := [⟨[(0, .c (.bool))], [(0, .arr (.int .u8))]⟩]
def f47.S : FnSpec := ⟨f47.ins, f47.outs, [0], fun x => f47 x.1 x.2.1 x.2.2.1 x.2.2.2.1⟩
def f47.E (fuel : Nat) : Env := ⟨tis, [], [], [], [], [], 1, [0], fuel⟩
theorem f47.run : ∀ x, runFn (f47.E 100000000000000000000) Go.Proofs.Try.f47 ((Go.Proofs.Try.f47.body).getD .skip) f47.S x = f47.S.f x := by intro x; kernel_rfl
theorem f47.sound : Sound Go.Proofs.Try.prog 47 f47.S := sound_of_run (fun _ => f47.E 100000000000000000000) (by kernel_rfl) (by kernel_rfl) (by kernel_rfl) orders (fun _ => ⟨tis_ok, EqsOk.nil _, FnsOk.nil⟩) (fun _ => rfl) (by kernel_rfl) (by kernel_rfl) (fun x r h => (f47.run x).trans h)
/-! f48: adit/aditref4.toward -/
def f48 (a0 : Int) (a1 : Int) : Option (Int × Unit) :=
 bif decide (a0 < a1) then
 some ((IntKind.wrap .i64 (a0 + 1), ()))
 else
 some ((IntKind.wrap .i64 (a0 - 1), ()))
def f48.ins : Shape := ⟨[(0, .c (.int .i64)), (1, .c (.int .i64))], []⟩
def f48.outs : List Shape := [⟨[(0, .c (.int .i64))], []⟩]
def f48.S : FnSpec := ⟨f48.ins, f48.outs, [], fun x => f48 x.1 x.2.1⟩
def f48.E (fuel : Nat) : Env := ⟨tis, [], [], [], [], [], 0, [], fuel⟩
theorem f48.run : ∀ x, runFn (f48.E 100000000000000000000) Go.Proofs.Try.f48 ((Go.Proofs.Try.f48.body).getD .skip) f48.S x = f48.S.f x := by intro x; kernel_rfl
theorem f48.sound : Sound Go.Proofs.Try.prog 48 f48.S := sound_of_run (fun _ => f48.E 100000000000000000000) (by kernel_rfl) (by kernel_rfl) (by kernel_rfl) orders (fun _ => ⟨tis_ok, EqsOk.nil _, FnsOk.nil⟩) (fun _ => rfl) (by kernel_rfl) (by kernel_rfl) (fun x r h => (f48.run x).trans h)
/-! f37: adit/aditref3.In -/
def f37 (a0 : Int) (a1 : Int) : Option (Bool × Unit) :=
 bif decide (a0 ≥ 0) then
 bif decide (a0 < 24) then
 bif decide (a1 ≥ 0) then
 some ((decide (a1 < 16), ()))
 else
 some ((Bool.false, ()))
 else
 some ((Bool.false, ()))
 else
 some ((Bool.false, ()))
def f37.ins : Shape := ⟨[(0, .c (.int .i64)), (1, .c (.int .i64))], []⟩
def f37.outs : List Shape := [⟨[(0, .c (.bool))], []⟩]
def f37.S : FnSpec := ⟨f37.ins, f37.outs, [], fun x => f37 x.1 x.2.1⟩
def f37.E (fuel : Nat) : Env := ⟨tis, [], [], [], [], [], 0, [], fuel⟩
theorem f37.run : ∀ x, runFn (f37.E 100000000000000000000) Go.Proofs.Try.f37 ((Go.Proofs.Try.f37.body).getD .skip) f37.S x = f37.S.f x := by intro x; kernel_rfl
theorem f37.sound : Sound Go.Proofs.Try.prog 37 f37.S := sound_of_run (fun _ => f37.E 100000000000000000000) (by kernel_rfl) (by kernel_rfl) (by kernel_rfl) orders (fun _ => ⟨tis_ok, EqsOk.nil _, FnsOk.nil⟩) (fun _ => rfl) (by kernel_rfl) (by kernel_rfl) (fun x r h => (f37.run x).trans h)
/-! f19: adit/aditref3.At -/
def f19 (a0 : List Int) (a1 : Int) (a2 : Int) : Option (Int × Unit) :=
 Option.bind (f37 a1 a2) fun y0 =>
 bif !y0.1 then
 some ((0, ()))
 else
 bif decide (IntKind.wrap .i64 (IntKind.wrap .i64 (a2 * 24) + a1) ≥ (↑(List.length a0) : Int)) then
 some ((0, ()))
 else
 bif inRange (IntKind.wrap .i64 (IntKind.wrap .i64 (a2 * 24) + a1)) (List.length a0) then
 some ((IntKind.wrap .i64 (List.getD a0 (Int.toNat (IntKind.wrap .i64 (IntKind.wrap .i64 (a2 * 24) + a1))) 0), ()))
 else
 none
def f19.ins : Shape := ⟨[(0, .c (.row (.int .u8))), (1, .c (.int .i64)), (2, .c (.int .i64))], []⟩
def f19.outs : List Shape := [⟨[(0, .c (.int .i64))], []⟩]
def f19.S : FnSpec := ⟨f19.ins, f19.outs, [], fun x => f19 x.1 x.2.1 x.2.2.1⟩
def f19.E (fuel : Nat) : Env := ⟨tis, [(37, f37.S)], [], [], [], [], 0, [], fuel⟩
theorem f19.run : ∀ x, runFn (f19.E 100000000000000000000) Go.Proofs.Try.f19 ((Go.Proofs.Try.f19.body).getD .skip) f19.S x = f19.S.f x := by intro x; kernel_rfl
theorem f19.sound : Sound Go.Proofs.Try.prog 19 f19.S := sound_of_run (fun _ => f19.E 100000000000000000000) (by kernel_rfl) (by kernel_rfl) (by kernel_rfl) orders (fun _ => ⟨tis_ok, EqsOk.nil _, (FnsOk.cons f37.sound FnsOk.nil)⟩) (fun _ => rfl) (by kernel_rfl) (by kernel_rfl) (fun x r h => (f19.run x).trans h)
/-! f18: adit/aditref3.Walk -/
def f18 (a0 : Int) : Option (Bool × Unit) :=
 bif decide (a0 ≥ 1) then
 some ((decide (a0 ≤ 5), ()))
 else
 some ((Bool.false, ()))
def f18.ins : Shape := ⟨[(0, .c (.int .i64))], []⟩
def f18.outs : List Shape := [⟨[(0, .c (.bool))], []⟩]
def f18.S : FnSpec := ⟨f18.ins, f18.outs, [], fun x => f18 x.1⟩
def f18.E (fuel : Nat) : Env := ⟨tis, [], [], [], [], [], 0, [], fuel⟩
theorem f18.run : ∀ x, runFn (f18.E 100000000000000000000) Go.Proofs.Try.f18 ((Go.Proofs.Try.f18.body).getD .skip) f18.S x = f18.S.f x := by intro x; kernel_rfl
theorem f18.sound : Sound Go.Proofs.Try.prog 18 f18.S := sound_of_run (fun _ => f18.E 100000000000000000000) (by kernel_rfl) (by kernel_rfl) (by kernel_rfl) orders (fun _ => ⟨tis_ok, EqsOk.nil _, FnsOk.nil⟩) (fun _ => rfl) (by kernel_rfl) (by kernel_rfl) (fun x r h => (f18.run x).trans h)
/-! f27: adit/aditref3.Field -/
def f27.L1 (k0 : List Int × List Bool × Int × List Int × List Int × Unit → Option (List Int × Unit)) (x : List Int × List Bool × Int × Int × Int × List Int × List Int × Unit) : Option (List Int × Unit) :=
 it (X := List Int × List Bool × Int × Int × Int × List Int × List Int × Unit) (fun rec x =>
 bif decide (x.2.2.2.2.1 < 4) then
 Option.bind (α := List Int × List Bool × Int × Int × Int × Int × Int × List Int × List Int × Unit ⊕ List Int × Unit) (
 bif x.2.2.2.2.1 == 0 then
 some (Sum.inl (x.1, x.2.1, x.2.2.1, x.2.2.2.1, x.2.2.2.2.1, Int.tmod x.2.2.2.1 24, IntKind.wrap .i64 (IntKind.wrap .i64 (Int.tdiv x.2.2.2.1 24) - 1), x.2.2.2.2.2.1, x.2.2.2.2.2.2.1, ()))
 else
 bif x.2.2.2.2.1 == 1 then
 some (Sum.inl (x.1, x.2.1, x.2.2.1, x.2.2.2.1, x.2.2.2.2.1, IntKind.wrap .i64 (Int.tmod x.2.2.2.1 24 + 1), IntKind.wrap .i64 (Int.tdiv x.2.2.2.1 24), x.2.2.2.2.2.1, x.2.2.2.2.2.2.1, ()))
 else
 bif x.2.2.2.2.1 == 2 then
 some (Sum.inl (x.1, x.2.1, x.2.2.1, x.2.2.2.1, x.2.2.2.2.1, Int.tmod x.2.2.2.1 24, IntKind.wrap .i64 (IntKind.wrap .i64 (Int.tdiv x.2.2.2.1 24) + 1), x.2.2.2.2.2.1, x.2.2.2.2.2.2.1, ()))
 else
 bif x.2.2.2.2.1 == 3 then
 some (Sum.inl (x.1, x.2.1, x.2.2.1, x.2.2.2.1, x.2.2.2.2.1, IntKind.wrap .i64 (Int.tmod x.2.2.2.1 24 - 1), IntKind.wrap .i64 (Int.tdiv x.2.2.2.1 24), x.2.2.2.2.2.1, x.2.2.2.2.2.2.1, ()))
 else
 some (Sum.inl (x.1, x.2.1, x.2.2.1, x.2.2.2.1, x.2.2.2.2.1, Int.tmod x.2.2.2.1 24, IntKind.wrap .i64 (Int.tdiv x.2.2.2.1 24), x.2.2.2.2.2.1, x.2.2.2.2.2.2.1, ()))
 ) fun y0 =>
 Sum.elim (fun y1 =>
 Option.bind (f37 y1.2.2.2.2.2.1 y1.2.2.2.2.2.2.1) fun y2 =>
 bif y2.1 then
 bif inRange (IntKind.wrap .i64 (IntKind.wrap .i64 (y1.2.2.2.2.2.2.1 * 24) + y1.2.2.2.2.2.1)) (List.length y1.2.2.2.2.2.2.2.1) then
 bif decide (List.getD y1.2.2.2.2.2.2.2.1 (Int.toNat (IntKind.wrap .i64 (IntKind.wrap .i64 (y1.2.2.2.2.2.2.1 * 24) + y1.2.2.2.2.2.1))) 0 < 0) then
 Option.bind (f19 y1.1 y1.2.2.2.2.2.1 y1.2.2.2.2.2.2.1) fun y3 =>
 Option.bind (f18 y3.1) fun y4 =>
 bif y4.1 then
 bif decide (IntKind.wrap .i64 (IntKind.wrap .i64 (y1.2.2.2.2.2.2.1 * 24) + y1.2.2.2.2.2.1) ≥ (↑(List.length y1.2.1) : Int)) then
 bif inRange y1.2.2.2.1 (List.length y1.2.2.2.2.2.2.2.1) then
 bif inRange (IntKind.wrap .i64 (IntKind.wrap .i64 (y1.2.2.2.2.2.2.1 * 24) + y1.2.2.2.2.2.1)) (List.length y1.2.2.2.2.2.2.2.1) then
 bif decide (List.length y1.2.2.2.2.2.2.2.2.1 + 1 ≤ limit 8) then
 let s0 : List Int := List.set y1.2.2.2.2.2.2.2.1 (Int.toNat (IntKind.wrap .i64 (IntKind.wrap .i64 (y1.2.2.2.2.2.2.1 * 24) + y1.2.2.2.2.2.1))) (IntKind.wrap .i64 (List.getD y1.2.2.2.2.2.2.2.1 (Int.toNat y1.2.2.2.1) 0 + 1))
 rec (y1.1, y1.2.1, y1.2.2.1, y1.2.2.2.1, IntKind.wrap .i64 (y1.2.2.2.2.1 + 1), s0, y1.2.2.2.2.2.2.2.2.1 ++ [IntKind.wrap .i64 (IntKind.wrap .i64 (y1.2.2.2.2.2.2.1 * 24) + y1.2.2.2.2.2.1)], ())
 else
 none
 else
 none
 else
 none
 else
 bif inRange (IntKind.wrap .i64 (IntKind.wrap .i64 (y1.2.2.2.2.2.2.1 * 24) + y1.2.2.2.2.2.1)) (List.length y1.2.1) then
 bif !List.getD y1.2.1 (Int.toNat (IntKind.wrap .i64 (IntKind.wrap .i64 (y1.2.2.2.2.2.2.1 * 24) + y1.2.2.2.2.2.1))) Bool.false then
 bif inRange y1.2.2.2.1 (List.length y1.2.2.2.2.2.2.2.1) then
 bif inRange (IntKind.wrap .i64 (IntKind.wrap .i64 (y1.2.2.2.2.2.2.1 * 24) + y1.2.2.2.2.2.1)) (List.length y1.2.2.2.2.2.2.2.1) then
 bif decide (List.length y1.2.2.2.2.2.2.2.2.1 + 1 ≤ limit 8) then
 let s0 : List Int := List.set y1.2.2.2.2.2.2.2.1 (Int.toNat (IntKind.wrap .i64 (IntKind.wrap .i64 (y1.2.2.2.2.2.2.1 * 24) + y1.2.2.2.2.2.1))) (IntKind.wrap .i64 (List.getD y1.2.2.2.2.2.2.2.1 (Int.toNat y1.2.2.2.1) 0 + 1))
 rec (y1.1, y1.2.1, y1.2.2.1, y1.2.2.2.1, IntKind.wrap .i64 (y1.2.2.2.2.1 + 1), s0, y1.2.2.2.2.2.2.2.2.1 ++ [IntKind.wrap .i64 (IntKind.wrap .i64 (y1.2.2.2.2.2.2.1 * 24) + y1.2.2.2.2.2.1)], ())
 else
 none
 else
 none
 else
 none
 else
 rec (y1.1, y1.2.1, y1.2.2.1, y1.2.2.2.1, IntKind.wrap .i64 (y1.2.2.2.2.1 + 1), y1.2.2.2.2.2.2.2.1, y1.2.2.2.2.2.2.2.2.1, ())
 else
 none
 else
 rec (y1.1, y1.2.1, y1.2.2.1, y1.2.2.2.1, IntKind.wrap .i64 (y1.2.2.2.2.1 + 1), y1.2.2.2.2.2.2.2.1, y1.2.2.2.2.2.2.2.2.1, ())
 else
 rec (y1.1, y1.2.1, y1.2.2.1, y1.2.2.2.1, IntKind.wrap .i64 (y1.2.2.2.2.1 + 1), y1.2.2.2.2.2.2.2.1, y1.2.2.2.2.2.2.2.2.1, ())
 else
 none
 else
 rec (y1.1, y1.2.1, y1.2.2.1, y1.2.2.2.1, IntKind.wrap .i64 (y1.2.2.2.2.1 + 1), y1.2.2.2.2.2.2.2.1, y1.2.2.2.2.2.2.2.2.1, ())
 ) (fun z5 =>
 some (z5)
 ) (y0)
 else
 k0 (x.1, x.2.1, IntKind.wrap .i64 (x.2.2.1 + 1), x.2.2.2.2.2.1, x.2.2.2.2.2.2.1, ())
 ) (100000000000000000000) (x)
def f27.L2 (x : List Int × List Bool × Int × List Int × List Int × Unit) : Option (List Int × Unit) :=
 it (X := List Int × List Bool × Int × List Int × List Int × Unit) (fun rec x =>
 bif decide (x.2.2.1 < (↑(List.length x.2.2.2.2.1) : Int)) then
 bif inRange x.2.2.1 (List.length x.2.2.2.2.1) then
 f27.L1 rec ((x.1, x.2.1, x.2.2.1, List.getD x.2.2.2.2.1 (Int.toNat x.2.2.1) 0, 0, x.2.2.2.1, x.2.2.2.2.1, ()))
 else
 none
 else
 some ((x.2.2.2.1, ()))
 ) (100000000000000000000) (x)
def f27.L3 (x : List Int × List Bool × Int × List Int × List Int × Unit) : Option (List Int × Unit) :=
 it (X := List Int × List Bool × Int × List Int × List Int × Unit) (fun rec x =>
 bif decide (x.2.2.1 < 384) then
 bif inRange x.2.2.1 (List.length x.2.2.2.1) then
 bif List.getD x.2.2.2.1 (Int.toNat x.2.2.1) 0 == 0 then
 bif decide (List.length x.2.2.2.2.1 + 1 ≤ limit 8) then
 rec (x.1, x.2.1, IntKind.wrap .i64 (x.2.2.1 + 1), x.2.2.2.1, x.2.2.2.2.1 ++ [x.2.2.1], ())
 else
 none
 else
 rec (x.1, x.2.1, IntKind.wrap .i64 (x.2.2.1 + 1), x.2.2.2.1, x.2.2.2.2.1, ())
 else
 none
 else
 f27.L2 ((x.1, x.2.1, 0, x.2.2.2.1, x.2.2.2.2.1, ()))
 ) (100000000000000000000) (x)
def f27.L4 (x : List Int × List Bool × List Int × Int × List Int × Unit) : Option (List Int × Unit) :=
 it (X := List Int × List Bool × List Int × Int × List Int × Unit) (fun rec x =>
 bif decide (x.2.2.2.1 < (↑(List.length x.2.2.1) : Int)) then
 bif inRange x.2.2.2.1 (List.length x.2.2.1) then
 bif decide (List.getD x.2.2.1 (Int.toNat x.2.2.2.1) 0 ≥ 0) then
 bif decide (List.getD x.2.2.1 (Int.toNat x.2.2.2.1) 0 < 384) then
 Option.bind (f19 x.1 (Int.tmod (List.getD x.2.2.1 (Int.toNat x.2.2.2.1) 0) 24) (IntKind.wrap .i64 (Int.tdiv (List.getD x.2.2.1 (Int.toNat x.2.2.2.1) 0) 24))) fun y0 =>
 Option.bind (f18 y0.1) fun y1 =>
 bif y1.1 then
 bif inRange (List.getD x.2.2.1 (Int.toNat x.2.2.2.1) 0) (List.length x.2.2.2.2.1) then
 rec (x.1, x.2.1, x.2.2.1, IntKind.wrap .i64 (x.2.2.2.1 + 1), List.set x.2.2.2.2.1 (Int.toNat (List.getD x.2.2.1 (Int.toNat x.2.2.2.1) 0)) 0, ())
 else
 none
 else
 rec (x.1, x.2.1, x.2.2.1, IntKind.wrap .i64 (x.2.2.2.1 + 1), x.2.2.2.2.1, ())
 else
 rec (x.1, x.2.1, x.2.2.1, IntKind.wrap .i64 (x.2.2.2.1 + 1), x.2.2.2.2.1, ())
 else
 rec (x.1, x.2.1, x.2.2.1, IntKind.wrap .i64 (x.2.2.2.1 + 1), x.2.2.2.2.1, ())
 else
 none
 else
 f27.L3 ((x.1, x.2.1, 0, x.2.2.2.2.1, [], ()))
 ) (100000000000000000000) (x)
def f27.L5 (x : List Int × List Bool × List Int × Int × List Int × Unit) : Option (List Int × Unit) :=
 it (X := List Int × List Bool × List Int × Int × List Int × Unit) (fun rec x =>
 bif decide (x.2.2.2.1 < 384) then
 bif inRange x.2.2.2.1 (List.length x.2.2.2.2.1) then
 rec (x.1, x.2.1, x.2.2.1, IntKind.wrap .i64 (x.2.2.2.1 + 1), List.set x.2.2.2.2.1 (Int.toNat x.2.2.2.1) (-1), ())
 else
 none
 else
 f27.L4 ((x.1, x.2.1, x.2.2.1, 0, x.2.2.2.2.1, ()))
 ) (100000000000000000000) (x)
def f27 (a0 : List Int) (a1 : List Bool) (a2 : List Int) : Option (List Int × Unit) :=
 f27.L5 ((a0, a1, a2, 0, List.replicate 384 0, ()))
def f27.ins : Shape := ⟨[(0, .c (.row (.int .u8))), (1, .c (.row .bool)), (2, .c (.row (.int .i64)))], []⟩
def f27.outs : List Shape := [⟨[(0, .c (.own 0))], [(0, .arr (.int .i64))]⟩]
def f27.S : FnSpec := ⟨f27.ins, f27.outs, [], fun x => f27 x.1 x.2.1 x.2.2.1⟩
def f27.E (fuel : Nat) : Env := ⟨tis, [(37, f37.S), (19, f19.S), (18, f18.S)], [], [(36, ⟨[(0, .c (.row (.int .u8))), (1, .c (.row .bool)), (7, .c (.own 0)), (11, .c (.own 1)), (13, .c (.int .i64)), (14, .c (.int .i64)), (15, .c (.int .i64)), (16, .c (.int .i64)), (17, .c (.int .i64))], [(0, .arr (.int .i64)), (1, .arr (.int .i64))]⟩)], [(4, ⟨[(0, .c (.row (.int .u8))), (1, .c (.row .bool)), (2, .c (.row (.int .i64))), (7, .c (.own 0)), (8, .c (.int .i64))], [(0, .arr (.int .i64))]⟩), (8, ⟨[(0, .c (.row (.int .u8))), (1, .c (.row .bool)), (2, .c (.row (.int .i64))), (7, .c (.own 0)), (9, .c (.int .i64))], [(0, .arr (.int .i64))]⟩), (15, ⟨[(0, .c (.row (.int .u8))), (1, .c (.row .bool)), (7, .c (.own 0)), (11, .c (.own 1)), (12, .c (.int .i64))], [(0, .arr (.int .i64)), (1, .arr (.int .i64))]⟩), (20, ⟨[(0, .c (.row (.int .u8))), (1, .c (.row .bool)), (7, .c (.own 0)), (11, .c (.own 1)), (13, .c (.int .i64))], [(0, .arr (.int .i64)), (1, .arr (.int .i64))]⟩), (24, ⟨[(0, .c (.row (.int .u8))), (1, .c (.row .bool)), (7, .c (.own 0)), (11, .c (.own 1)), (13, .c (.int .i64)), (14, .c (.int .i64)), (15, .c (.int .i64))], [(0, .arr (.int .i64)), (1, .arr (.int .i64))]⟩)], [], 0, [], fuel⟩
theorem f27.run : ∀ x, runFn (f27.E 100000000000000000000) Go.Proofs.Try.f27 ((Go.Proofs.Try.f27.body).getD .skip) f27.S x = f27.S.f x := by intro x; kernel_rfl
theorem f27.sound : Sound Go.Proofs.Try.prog 27 f27.S := sound_of_run (fun _ => f27.E 100000000000000000000) (by kernel_rfl) (by kernel_rfl) (by kernel_rfl) orders (fun _ => ⟨tis_ok, EqsOk.nil _, (FnsOk.cons f37.sound (FnsOk.cons f19.sound (FnsOk.cons f18.sound FnsOk.nil)))⟩) (fun _ => rfl) (by kernel_rfl) (by kernel_rfl) (fun x r h => (f27.run x).trans h)
/-! f49: adit/aditref4.pick -/
def f49.L1 (x : List Int × List Int × Int × List Bool × Int × Int × Int × Int × List Int × Unit) : Option (Int × Unit) :=
 it (X := List Int × List Int × Int × List Bool × Int × Int × Int × Int × List Int × Unit) (fun rec x =>
 bif decide (x.2.2.2.2.2.2.2.1 < 384) then
 bif inRange x.2.2.2.2.2.2.2.1 (List.length x.1) then
 bif List.getD x.1 (Int.toNat x.2.2.2.2.2.2.2.1) 0 == 1 then
 bif inRange x.2.2.2.2.2.2.2.1 (List.length x.2.1) then
 bif decide (List.getD x.2.1 (Int.toNat x.2.2.2.2.2.2.2.1) 0 ≥ x.2.2.1) then
 bif inRange x.2.2.2.2.2.2.2.1 (List.length x.2.2.2.1) then
 bif !List.getD x.2.2.2.1 (Int.toNat x.2.2.2.2.2.2.2.1) Bool.false then
 bif decide (List.length x.2.2.2.2.2.2.2.2.1 + 1 ≤ limit 8) then
 rec (x.1, x.2.1, x.2.2.1, x.2.2.2.1, x.2.2.2.2.1, x.2.2.2.2.2.1, x.2.2.2.2.2.2.1, IntKind.wrap .i64 (x.2.2.2.2.2.2.2.1 + 1), x.2.2.2.2.2.2.2.2.1 ++ [x.2.2.2.2.2.2.2.1], ())
 else
 none
 else
 rec (x.1, x.2.1, x.2.2.1, x.2.2.2.1, x.2.2.2.2.1, x.2.2.2.2.2.1, x.2.2.2.2.2.2.1, IntKind.wrap .i64 (x.2.2.2.2.2.2.2.1 + 1), x.2.2.2.2.2.2.2.2.1, ())
 else
 none
 else
 rec (x.1, x.2.1, x.2.2.1, x.2.2.2.1, x.2.2.2.2.1, x.2.2.2.2.2.1, x.2.2.2.2.2.2.1, IntKind.wrap .i64 (x.2.2.2.2.2.2.2.1 + 1), x.2.2.2.2.2.2.2.2.1, ())
 else
 none
 else
 rec (x.1, x.2.1, x.2.2.1, x.2.2.2.1, x.2.2.2.2.1, x.2.2.2.2.2.1, x.2.2.2.2.2.2.1, IntKind.wrap .i64 (x.2.2.2.2.2.2.2.1 + 1), x.2.2.2.2.2.2.2.2.1, ())
 else
 none
 else
 bif (↑(List.length x.2.2.2.2.2.2.2.2.1) : Int) == 0 then
 some ((-1, ()))
 else
 Option.bind (f46 x.2.2.2.2.1 x.2.2.2.2.2.1 x.2.2.2.2.2.2.1 0 (↑(List.length x.2.2.2.2.2.2.2.2.1) : Int)) fun y0 =>
 bif inRange y0.1 (List.length x.2.2.2.2.2.2.2.2.1) then
 some ((List.getD x.2.2.2.2.2.2.2.2.1 (Int.toNat y0.1) 0, ()))
 else
 none
 ) (100000000000000000000) (x)
def f49 (a0 : List Int) (a1 : List Int) (a2 : Int) (a3 : List Bool) (a4 : Int) (a5 : Int) (a6 : Int) : Option (Int × Unit) :=
 f49.L1 ((a0, a1, a2, a3, a4, a5, a6, 0, [], ()))
def f49.ins : Shape := ⟨[(0, .c (.row (.int .u8))), (1, .c (.row (.int .i64))), (2, .c (.int .i64)), (3, .c (.row .bool)), (4, .c (.int .i64)), (5, .c (.int .i64)), (6, .c (.int .i64))], []⟩
def f49.outs : List Shape := [⟨[(0, .c (.int .i64))], []⟩]
def f49.S : FnSpec := ⟨f49.ins, f49.outs, [], fun x => f49 x.1 x.2.1 x.2.2.1 x.2.2.2.1 x.2.2.2.2.1 x.2.2.2.2.2.1 x.2.2.2.2.2.2.1⟩
def f49.E (fuel : Nat) : Env := ⟨tis, [(46, f46.S)], [], [], [(4, ⟨[(0, .c (.row (.int .u8))), (1, .c (.row (.int .i64))), (2, .c (.int .i64)), (3, .c (.row .bool)), (4, .c (.int .i64)), (5, .c (.int .i64)), (6, .c (.int .i64)), (15, .c (.own 0)), (16, .c (.int .i64))], [(0, .arr (.int .i64))]⟩)], [], 0, [], fuel⟩
theorem f49.run : ∀ x, runFn (f49.E 100000000000000000000) Go.Proofs.Try.f49 ((Go.Proofs.Try.f49.body).getD .skip) f49.S x = f49.S.f x := by intro x; kernel_rfl
theorem f49.sound : Sound Go.Proofs.Try.prog 49 f49.S := sound_of_run (fun _ => f49.E 100000000000000000000) (by kernel_rfl) (by kernel_rfl) (by kernel_rfl) orders (fun _ => ⟨tis_ok, EqsOk.nil _, (FnsOk.cons f46.sound FnsOk.nil)⟩) (fun _ => rfl) (by kernel_rfl) (by kernel_rfl) (fun x r h => (f49.run x).trans h)
/-! f25: adit/aditref5.Stats -/
def f25 (a0 : Int) : Option (Int × Int × Int × Int × Int × Int × Int × Int × Int × Int × Int × Unit) :=
 Option.bind (α := Int × Int × Int × Int × Int × Int × Int × Int × Int × Int × Int × Int × Int × Int × Int × Unit ⊕ Int × Int × Int × Int × Int × Int × Int × Int × Int × Int × Int × Unit) (
 bif a0 == 1 then
 some (Sum.inl (a0, 20, 5, 1, 0, 0, 0, 0, 0, 0, 0, 0, 0, 0, 0, ()))
 else
 bif a0 == 2 then
 some (Sum.inl (a0, 4, 2, 0, 0, 0, 0, 0, 0, 0, 0, 0, 0, 0, 0, ()))
 else
 bif a0 == 3 then
 some (Sum.inl (a0, 9, 4, 1, 0, 0, 0, 0, 0, 0, 0, 0, 0, 0, 0, ()))
 else
 bif a0 == 4 then
 some (Sum.inl (a0, 6, 3, 0, 0, 0, 0, 0, 0, 0, 0, 0, 0, 0, 0, ()))
 else
 some (Sum.inr (0, 0, 0, 0, 0, 0, 0, 0, 0, 0, 0, ()))
 ) fun y0 =>
 Sum.elim (fun y1 =>
 some ((y1.1, 0, 0, 0, 0, y1.2.1, y1.2.1, y1.2.2.1, y1.2.2.2.1, 0, 0, ()))
 ) (fun z2 =>
 some (z2)
 ) (y0)
def f25.ins : Shape := ⟨[(0, .c (.int .i64))], []⟩
def f25.outs : List Shape := [⟨[(0, .agg [.int .i64, .int .i64, .int .i64, .int .i64, .int .i64, .int .i64, .int .i64, .int .i64, .int .i64, .int .i64, .int .i64])], []⟩]
def f25.S : FnSpec := ⟨f25.ins, f25.outs, [], fun x => f25 x.1⟩
def f25.E (fuel : Nat) : Env := ⟨tis, [], [], [(13, ⟨[(0, .c (.int .i64)), (2, .c (.ptr 0 0)), (3, .c (.int .i64)), (4, .c (.int .i64)), (5, .c (.int .i64))], [(0, .box [.int .i64, .int .i64, .int .i64, .int .i64, .int .i64, .int .i64, .int .i64, .int .i64, .int .i64, .int .i64, .int .i64])]⟩)], [], [], 0, [], fuel⟩
theorem f25.run : ∀ x, runFn (f25.E 100000000000000000000) Go.Proofs.Try.f25 ((Go.Proofs.Try.f25.body).getD .skip) f25.S x = f25.S.f x := by intro x; kernel_rfl
theorem f25.sound : Sound Go.Proofs.Try.prog 25 f25.S := sound_of_run (fun _ => f25.E 100000000000000000000) (by kernel_rfl) (by kernel_rfl) (by kernel_rfl) orders (fun _ => ⟨tis_ok, EqsOk.nil _, FnsOk.nil⟩) (fun _ => rfl) (by kernel_rfl) (by kernel_rfl) (fun x r h => (f25.run x).trans h)
/-! f40: adit/aditref4.Make -/
def f40.L1 (k0 : Int × Int × Int × Int × Int × Int × Int × Int × List Int × Int × Int × Int × Int × Int × Int × Int × Int × Int × Int × Int × Int × Unit → Option (List Int × List E11 × List (Int × Int × Int × Int) × Unit)) (x : Int × Int × Int × Int × Int × Int × Int × Int × Int × List Int × Int × Int × Int × Int × Int × Int × Int × Int × Int × Int × Int × Int × Unit) : Option (List Int × List E11 × List (Int × Int × Int × Int) × Unit) :=
 it (X := Int × Int × Int × Int × Int × Int × Int × Int × Int × List Int × Int × Int × Int × Int × Int × Int × Int × Int × Int × Int × Int × Int × Unit) (fun rec x =>
 bif decide (x.2.2.2.2.2.2.2.2.1 < IntKind.wrap .i64 (x.2.2.2.2.2.1 + x.2.2.2.1)) then
 bif inRange (IntKind.wrap .i64 (IntKind.wrap .i64 (x.2.2.2.2.2.2.2.1 * 24) + x.2.2.2.2.2.2.2.2.1)) (List.length x.2.2.2.2.2.2.2.2.2.1) then
 rec (x.1, x.2.1, x.2.2.1, x.2.2.2.1, x.2.2.2.2.1, x.2.2.2.2.2.1, x.2.2.2.2.2.2.1, x.2.2.2.2.2.2.2.1, IntKind.wrap .i64 (x.2.2.2.2.2.2.2.2.1 + 1), List.set x.2.2.2.2.2.2.2.2.2.1 (Int.toNat (IntKind.wrap .i64 (IntKind.wrap .i64 (x.2.2.2.2.2.2.2.1 * 24) + x.2.2.2.2.2.2.2.2.1))) 1, x.2.2.2.2.2.2.2.2.2.2.1, x.2.2.2.2.2.2.2.2.2.2.2.1, x.2.2.2.2.2.2.2.2.2.2.2.2.1, x.2.2.2.2.2.2.2.2.2.2.2.2.2.1, x.2.2.2.2.2.2.2.2.2.2.2.2.2.2.1, x.2.2.2.2.2.2.2.2.2.2.2.2.2.2.2.1, x.2.2.2.2.2.2.2.2.2.2.2.2.2.2.2.2.1, x.2.2.2.2.2.2.2.2.2.2.2.2.2.2.2.2.2.1, x.2.2.2.2.2.2.2.2.2.2.2.2.2.2.2.2.2.2.1, x.2.2.2.2.2.2.2.2.2.2.2.2.2.2.2.2.2.2.2.1, x.2.2.2.2.2.2.2.2.2.2.2.2.2.2.2.2.2.2.2.2.1, x.2.2.2.2.2.2.2.2.2.2.2.2.2.2.2.2.2.2.2.2.2.1, ())
 else
 none
 else
 k0 (x.1, x.2.1, x.2.2.1, x.2.2.2.1, x.2.2.2.2.1, x.2.2.2.2.2.1, x.2.2.2.2.2.2.1, IntKind.wrap .i64 (x.2.2.2.2.2.2.2.1 + 1), x.2.2.2.2.2.2.2.2.2.1, x.2.2.2.2.2.2.2.2.2.2.1, x.2.2.2.2.2.2.2.2.2.2.2.1, x.2.2.2.2.2.2.2.2.2.2.2.2.1, x.2.2.2.2.2.2.2.2.2.2.2.2.2.1, x.2.2.2.2.2.2.2.2.2.2.2.2.2.2.1, x.2.2.2.2.2.2.2.2.2.2.2.2.2.2.2.1, x.2.2.2.2.2.2.2.2.2.2.2.2.2.2.2.2.1, x.2.2.2.2.2.2.2.2.2.2.2.2.2.2.2.2.2.1, x.2.2.2.2.2.2.2.2.2.2.2.2.2.2.2.2.2.2.1, x.2.2.2.2.2.2.2.2.2.2.2.2.2.2.2.2.2.2.2.1, x.2.2.2.2.2.2.2.2.2.2.2.2.2.2.2.2.2.2.2.2.1, x.2.2.2.2.2.2.2.2.2.2.2.2.2.2.2.2.2.2.2.2.2.1, ())
 ) (100000000000000000000) (x)
def f40.L2 (k0 : Int × Int × Int × List Int × Int × Int × Int × Int × Int × Int × Int × Int × Int × Int × Int × Int × Unit → Option (List Int × List E11 × List (Int × Int × Int × Int) × Unit)) (x : Int × Int × Int × Int × Int × Int × Int × Int × List Int × Int × Int × Int × Int × Int × Int × Int × Int × Int × Int × Int × Int × Unit) : Option (List Int × List E11 × List (Int × Int × Int × Int) × Unit) :=
 it (X := Int × Int × Int × Int × Int × Int × Int × Int × List Int × Int × Int × Int × Int × Int × Int × Int × Int × Int × Int × Int × Int × Unit) (fun rec x =>
 bif decide (x.2.2.2.2.2.2.2.1 < IntKind.wrap .i64 (x.2.2.2.2.2.2.1 + x.2.2.2.2.1)) then
 f40.L1 rec ((x.1, x.2.1, x.2.2.1, x.2.2.2.1, x.2.2.2.2.1, x.2.2.2.2.2.1, x.2.2.2.2.2.2.1, x.2.2.2.2.2.2.2.1, x.2.2.2.2.2.1, x.2.2.2.2.2.2.2.2.1, x.2.2.2.2.2.2.2.2.2.1, x.2.2.2.2.2.2.2.2.2.2.1, x.2.2.2.2.2.2.2.2.2.2.2.1, x.2.2.2.2.2.2.2.2.2.2.2.2.1, x.2.2.2.2.2.2.2.2.2.2.2.2.2.1, x.2.2.2.2.2.2.2.2.2.2.2.2.2.2.1, x.2.2.2.2.2.2.2.2.2.2.2.2.2.2.2.1, x.2.2.2.2.2.2.2.2.2.2.2.2.2.2.2.2.1, x.2.2.2.2.2.2.2.2.2.2.2.2.2.2.2.2.2.1, x.2.2.2.2.2.2.2.2.2.2.2.2.2.2.2.2.2.2.1, x.2.2.2.2.2.2.2.2.2.2.2.2.2.2.2.2.2.2.2.1, x.2.2.2.2.2.2.2.2.2.2.2.2.2.2.2.2.2.2.2.2.1, ()))
 else
 bif inRange x.2.2.1 6 then
 bif inRange x.2.2.1 6 then
 k0 (x.1, x.2.1, IntKind.wrap .i64 (x.2.2.1 + 1), x.2.2.2.2.2.2.2.2.1, if Int.toNat x.2.2.1 = 0 / 1 then IntKind.wrap .i64 (x.2.2.2.2.2.1 + IntKind.wrap .i64 (Int.tdiv x.2.2.2.1 2)) else x.2.2.2.2.2.2.2.2.2.1, if Int.toNat x.2.2.1 = (0 + 1) / 1 then IntKind.wrap .i64 (x.2.2.2.2.2.1 + IntKind.wrap .i64 (Int.tdiv x.2.2.2.1 2)) else x.2.2.2.2.2.2.2.2.2.2.1, if Int.toNat x.2.2.1 = (0 + 1 + 1) / 1 then IntKind.wrap .i64 (x.2.2.2.2.2.1 + IntKind.wrap .i64 (Int.tdiv x.2.2.2.1 2)) else x.2.2.2.2.2.2.2.2.2.2.2.1, if Int.toNat x.2.2.1 = (0 + 1 + 1 + 1) / 1 then IntKind.wrap .i64 (x.2.2.2.2.2.1 + IntKind.wrap .i64 (Int.tdiv x.2.2.2.1 2)) else x.2.2.2.2.2.2.2.2.2.2.2.2.1, if Int.toNat x.2.2.1 = (0 + 1 + 1 + 1 + 1) / 1 then IntKind.wrap .i64 (x.2.2.2.2.2.1 + IntKind.wrap .i64 (Int.tdiv x.2.2.2.1 2)) else x.2.2.2.2.2.2.2.2.2.2.2.2.2.1, if Int.toNat x.2.2.1 = (0 + 1 + 1 + 1 + 1 + 1) / 1 then IntKind.wrap .i64 (x.2.2.2.2.2.1 + IntKind.wrap .i64 (Int.tdiv x.2.2.2.1 2)) else x.2.2.2.2.2.2.2.2.2.2.2.2.2.2.1, if Int.toNat x.2.2.1 = 0 / 1 then IntKind.wrap .i64 (x.2.2.2.2.2.2.1 + IntKind.wrap .i64 (Int.tdiv x.2.2.2.2.1 2)) else x.2.2.2.2.2.2.2.2.2.2.2.2.2.2.2.1, if Int.toNat x.2.2.1 = (0 + 1) / 1 then IntKind.wrap .i64 (x.2.2.2.2.2.2.1 + IntKind.wrap .i64 (Int.tdiv x.2.2.2.2.1 2)) else x.2.2.2.2.2.2.2.2.2.2.2.2.2.2.2.2.1, if Int.toNat x.2.2.1 = (0 + 1 + 1) / 1 then IntKind.wrap .i64 (x.2.2.2.2.2.2.1 + IntKind.wrap .i64 (Int.tdiv x.2.2.2.2.1 2)) else x.2.2.2.2.2.2.2.2.2.2.2.2.2.2.2.2.2.1, if Int.toNat x.2.2.1 = (0 + 1 + 1 + 1) / 1 then IntKind.wrap .i64 (x.2.2.2.2.2.2.1 + IntKind.wrap .i64 (Int.tdiv x.2.2.2.2.1 2)) else x.2.2.2.2.2.2.2.2.2.2.2.2.2.2.2.2.2.2.1, if Int.toNat x.2.2.1 = (0 + 1 + 1 + 1 + 1) / 1 then IntKind.wrap .i64 (x.2.2.2.2.2.2.1 + IntKind.wrap .i64 (Int.tdiv x.2.2.2.2.1 2)) else x.2.2.2.2.2.2.2.2.2.2.2.2.2.2.2.2.2.2.2.1, if Int.toNat x.2.2.1 = (0 + 1 + 1 + 1 + 1 + 1) / 1 then IntKind.wrap .i64 (x.2.2.2.2.2.2.1 + IntKind.wrap .i64 (Int.tdiv x.2.2.2.2.1 2)) else x.2.2.2.2.2.2.2.2.2.2.2.2.2.2.2.2.2.2.2.2.1, ())
 else
 none
 else
 none
 ) (100000000000000000000) (x)
def f40.L3 (k0 : Int × Int × Int × List Int × Int × Int × Int × Int × Int × Int × Int × Int × Int × Int × Int × Int × Unit → Option (List Int × List E11 × List (Int × Int × Int × Int) × Unit)) (x : Int × Int × Int × Int × Int × Bool × Bool × List Int × Int × Int × Int × Int × Int × Int × Int × Int × Int × Int × Int × Int × Unit) : Option (List Int × List E11 × List (Int × Int × Int × Int) × Unit) :=
 it (X := Int × Int × Int × Int × Int × Bool × Bool × List Int × Int × Int × Int × Int × Int × Int × Int × Int × Int × Int × Int × Int × Unit) (fun rec x =>
 Option.bind (α := Int × Int × Int × Int × Int × Bool × Bool × List Int × Int × Int × Int × Int × Int × Int × Int × Int × Int × Int × Int × Int × Unit ⊕ List Int × List E11 × List (Int × Int × Int × Int) × Unit) (
 bif inRange x.2.2.1 6 then
 bif x.2.2.2.1 != List.getD [x.2.2.2.2.2.2.2.2.1, x.2.2.2.2.2.2.2.2.2.1, x.2.2.2.2.2.2.2.2.2.2.1, x.2.2.2.2.2.2.2.2.2.2.2.1, x.2.2.2.2.2.2.2.2.2.2.2.2.1, x.2.2.2.2.2.2.2.2.2.2.2.2.2.1] (Int.toNat x.2.2.1) 0 then
 some (Sum.inl (x.1, x.2.1, x.2.2.1, x.2.2.2.1, x.2.2.2.2.1, x.2.2.2.2.2.1, x.2.2.2.2.2.2.1, x.2.2.2.2.2.2.2.1, x.2.2.2.2.2.2.2.2.1, x.2.2.2.2.2.2.2.2.2.1, x.2.2.2.2.2.2.2.2.2.2.1, x.2.2.2.2.2.2.2.2.2.2.2.1, x.2.2.2.2.2.2.2.2.2.2.2.2.1, x.2.2.2.2.2.2.2.2.2.2.2.2.2.1, x.2.2.2.2.2.2.2.2.2.2.2.2.2.2.1, x.2.2.2.2.2.2.2.2.2.2.2.2.2.2.2.1, x.2.2.2.2.2.2.2.2.2.2.2.2.2.2.2.2.1, x.2.2.2.2.2.2.2.2.2.2.2.2.2.2.2.2.2.1, x.2.2.2.2.2.2.2.2.2.2.2.2.2.2.2.2.2.2.1, x.2.2.2.2.2.2.2.2.2.2.2.2.2.2.2.2.2.2.2.1, ()))
 else
 bif inRange x.2.2.1 6 then
 bif x.2.2.2.2.1 != List.getD [x.2.2.2.2.2.2.2.2.2.2.2.2.2.2.1, x.2.2.2.2.2.2.2.2.2.2.2.2.2.2.2.1, x.2.2.2.2.2.2.2.2.2.2.2.2.2.2.2.2.1, x.2.2.2.2.2.2.2.2.2.2.2.2.2.2.2.2.2.1, x.2.2.2.2.2.2.2.2.2.2.2.2.2.2.2.2.2.2.1, x.2.2.2.2.2.2.2.2.2.2.2.2.2.2.2.2.2.2.2.1] (Int.toNat x.2.2.1) 0 then
 some (Sum.inl (x.1, x.2.1, x.2.2.1, x.2.2.2.1, x.2.2.2.2.1, x.2.2.2.2.2.1, x.2.2.2.2.2.2.1, x.2.2.2.2.2.2.2.1, x.2.2.2.2.2.2.2.2.1, x.2.2.2.2.2.2.2.2.2.1, x.2.2.2.2.2.2.2.2.2.2.1, x.2.2.2.2.2.2.2.2.2.2.2.1, x.2.2.2.2.2.2.2.2.2.2.2.2.1, x.2.2.2.2.2.2.2.2.2.2.2.2.2.1, x.2.2.2.2.2.2.2.2.2.2.2.2.2.2.1, x.2.2.2.2.2.2.2.2.2.2.2.2.2.2.2.1, x.2.2.2.2.2.2.2.2.2.2.2.2.2.2.2.2.1, x.2.2.2.2.2.2.2.2.2.2.2.2.2.2.2.2.2.1, x.2.2.2.2.2.2.2.2.2.2.2.2.2.2.2.2.2.2.1, x.2.2.2.2.2.2.2.2.2.2.2.2.2.2.2.2.2.2.2.1, ()))
 else
 Option.bind (k0 (x.1, x.2.1, IntKind.wrap .i64 (x.2.2.1 + 1), x.2.2.2.2.2.2.2.1, x.2.2.2.2.2.2.2.2.1, x.2.2.2.2.2.2.2.2.2.1, x.2.2.2.2.2.2.2.2.2.2.1, x.2.2.2.2.2.2.2.2.2.2.2.1, x.2.2.2.2.2.2.2.2.2.2.2.2.1, x.2.2.2.2.2.2.2.2.2.2.2.2.2.1, x.2.2.2.2.2.2.2.2.2.2.2.2.2.2.1, x.2.2.2.2.2.2.2.2.2.2.2.2.2.2.2.1, x.2.2.2.2.2.2.2.2.2.2.2.2.2.2.2.2.1, x.2.2.2.2.2.2.2.2.2.2.2.2.2.2.2.2.2.1, x.2.2.2.2.2.2.2.2.2.2.2.2.2.2.2.2.2.2.1, x.2.2.2.2.2.2.2.2.2.2.2.2.2.2.2.2.2.2.2.1, ())) fun y0 =>
 some (Sum.inr y0)
 else
 none
 else
 none
 ) fun y1 =>
 Sum.elim (fun y2 =>
 Option.bind (α := Int × Int × Int × Int × Int × Bool × Bool × List Int × Int × Int × Int × Int × Int × Int × Int × Int × Int × Int × Int × Int × Unit ⊕ List Int × List E11 × List (Int × Int × Int × Int) × Unit) (
 bif y2.2.2.2.2.2.2.1 then
 bif inRange y2.2.2.1 6 then
 bif y2.2.2.2.1 != List.getD [y2.2.2.2.2.2.2.2.2.1, y2.2.2.2.2.2.2.2.2.2.1, y2.2.2.2.2.2.2.2.2.2.2.1, y2.2.2.2.2.2.2.2.2.2.2.2.1, y2.2.2.2.2.2.2.2.2.2.2.2.2.1, y2.2.2.2.2.2.2.2.2.2.2.2.2.2.1] (Int.toNat y2.2.2.1) 0 then
 bif inRange y2.2.2.1 6 then
 Option.bind (f48 y2.2.2.2.1 (List.getD [y2.2.2.2.2.2.2.2.2.1, y2.2.2.2.2.2.2.2.2.2.1, y2.2.2.2.2.2.2.2.2.2.2.1, y2.2.2.2.2.2.2.2.2.2.2.2.1, y2.2.2.2.2.2.2.2.2.2.2.2.2.1, y2.2.2.2.2.2.2.2.2.2.2.2.2.2.1] (Int.toNat y2.2.2.1) 0)) fun y3 =>
 some (Sum.inl (y2.1, y2.2.1, y2.2.2.1, y3.1, y2.2.2.2.2.1, y2.2.2.2.2.2.1, y2.2.2.2.2.2.2.1, y2.2.2.2.2.2.2.2.1, y2.2.2.2.2.2.2.2.2.1, y2.2.2.2.2.2.2.2.2.2.1, y2.2.2.2.2.2.2.2.2.2.2.1, y2.2.2.2.2.2.2.2.2.2.2.2.1, y2.2.2.2.2.2.2.2.2.2.2.2.2.1, y2.2.2.2.2.2.2.2.2.2.2.2.2.2.1, y2.2.2.2.2.2.2.2.2.2.2.2.2.2.2.1, y2.2.2.2.2.2.2.2.2.2.2.2.2.2.2.2.1, y2.2.2.2.2.2.2.2.2.2.2.2.2.2.2.2.2.1, y2.2.2.2.2.2.2.2.2.2.2.2.2.2.2.2.2.2.1, y2.2.2.2.2.2.2.2.2.2.2.2.2.2.2.2.2.2.2.1, y2.2.2.2.2.2.2.2.2.2.2.2.2.2.2.2.2.2.2.2.1, ()))
 else
 none
 else
 bif !y2.2.2.2.2.2.2.1 then
 bif inRange y2.2.2.1 6 then
 bif y2.2.2.2.2.1 == List.getD [y2.2.2.2.2.2.2.2.2.2.2.2.2.2.2.1, y2.2.2.2.2.2.2.2.2.2.2.2.2.2.2.2.1, y2.2.2.2.2.2.2.2.2.2.2.2.2.2.2.2.2.1, y2.2.2.2.2.2.2.2.2.2.2.2.2.2.2.2.2.2.1, y2.2.2.2.2.2.2.2.2.2.2.2.2.2.2.2.2.2.2.1, y2.2.2.2.2.2.2.2.2.2.2.2.2.2.2.2.2.2.2.2.1] (Int.toNat y2.2.2.1) 0 then
 bif inRange y2.2.2.1 6 then
 Option.bind (f48 y2.2.2.2.1 (List.getD [y2.2.2.2.2.2.2.2.2.1, y2.2.2.2.2.2.2.2.2.2.1, y2.2.2.2.2.2.2.2.2.2.2.1, y2.2.2.2.2.2.2.2.2.2.2.2.1, y2.2.2.2.2.2.2.2.2.2.2.2.2.1, y2.2.2.2.2.2.2.2.2.2.2.2.2.2.1] (Int.toNat y2.2.2.1) 0)) fun y4 =>
 some (Sum.inl (y2.1, y2.2.1, y2.2.2.1, y4.1, y2.2.2.2.2.1, y2.2.2.2.2.2.1, y2.2.2.2.2.2.2.1, y2.2.2.2.2.2.2.2.1, y2.2.2.2.2.2.2.2.2.1, y2.2.2.2.2.2.2.2.2.2.1, y2.2.2.2.2.2.2.2.2.2.2.1, y2.2.2.2.2.2.2.2.2.2.2.2.1, y2.2.2.2.2.2.2.2.2.2.2.2.2.1, y2.2.2.2.2.2.2.2.2.2.2.2.2.2.1, y2.2.2.2.2.2.2.2.2.2.2.2.2.2.2.1, y2.2.2.2.2.2.2.2.2.2.2.2.2.2.2.2.1, y2.2.2.2.2.2.2.2.2.2.2.2.2.2.2.2.2.1, y2.2.2.2.2.2.2.2.2.2.2.2.2.2.2.2.2.2.1, y2.2.2.2.2.2.2.2.2.2.2.2.2.2.2.2.2.2.2.1, y2.2.2.2.2.2.2.2.2.2.2.2.2.2.2.2.2.2.2.2.1, ()))
 else
 none
 else
 bif inRange y2.2.2.1 6 then
 Option.bind (f48 y2.2.2.2.2.1 (List.getD [y2.2.2.2.2.2.2.2.2.2.2.2.2.2.2.1, y2.2.2.2.2.2.2.2.2.2.2.2.2.2.2.2.1, y2.2.2.2.2.2.2.2.2.2.2.2.2.2.2.2.2.1, y2.2.2.2.2.2.2.2.2.2.2.2.2.2.2.2.2.2.1, y2.2.2.2.2.2.2.2.2.2.2.2.2.2.2.2.2.2.2.1, y2.2.2.2.2.2.2.2.2.2.2.2.2.2.2.2.2.2.2.2.1] (Int.toNat y2.2.2.1) 0)) fun y5 =>
 some (Sum.inl (y2.1, y2.2.1, y2.2.2.1, y2.2.2.2.1, y5.1, y2.2.2.2.2.2.1, y2.2.2.2.2.2.2.1, y2.2.2.2.2.2.2.2.1, y2.2.2.2.2.2.2.2.2.1, y2.2.2.2.2.2.2.2.2.2.1, y2.2.2.2.2.2.2.2.2.2.2.1, y2.2.2.2.2.2.2.2.2.2.2.2.1, y2.2.2.2.2.2.2.2.2.2.2.2.2.1, y2.2.2.2.2.2.2.2.2.2.2.2.2.2.1, y2.2.2.2.2.2.2.2.2.2.2.2.2.2.2.1, y2.2.2.2.2.2.2.2.2.2.2.2.2.2.2.2.1, y2.2.2.2.2.2.2.2.2.2.2.2.2.2.2.2.2.1, y2.2.2.2.2.2.2.2.2.2.2.2.2.2.2.2.2.2.1, y2.2.2.2.2.2.2.2.2.2.2.2.2.2.2.2.2.2.2.1, y2.2.2.2.2.2.2.2.2.2.2.2.2.2.2.2.2.2.2.2.1, ()))
 else
 none
 else
 none
 else
 bif inRange y2.2.2.1 6 then
 Option.bind (f48 y2.2.2.2.2.1 (List.getD [y2.2.2.2.2.2.2.2.2.2.2.2.2.2.2.1, y2.2.2.2.2.2.2.2.2.2.2.2.2.2.2.2.1, y2.2.2.2.2.2.2.2.2.2.2.2.2.2.2.2.2.1, y2.2.2.2.2.2.2.2.2.2.2.2.2.2.2.2.2.2.1, y2.2.2.2.2.2.2.2.2.2.2.2.2.2.2.2.2.2.2.1, y2.2.2.2.2.2.2.2.2.2.2.2.2.2.2.2.2.2.2.2.1] (Int.toNat y2.2.2.1) 0)) fun y6 =>
 some (Sum.inl (y2.1, y2.2.1, y2.2.2.1, y2.2.2.2.1, y6.1, y2.2.2.2.2.2.1, y2.2.2.2.2.2.2.1, y2.2.2.2.2.2.2.2.1, y2.2.2.2.2.2.2.2.2.1, y2.2.2.2.2.2.2.2.2.2.1, y2.2.2.2.2.2.2.2.2.2.2.1, y2.2.2.2.2.2.2.2.2.2.2.2.1, y2.2.2.2.2.2.2.2.2.2.2.2.2.1, y2.2.2.2.2.2.2.2.2.2.2.2.2.2.1, y2.2.2.2.2.2.2.2.2.2.2.2.2.2.2.1, y2.2.2.2.2.2.2.2.2.2.2.2.2.2.2.2.1, y2.2.2.2.2.2.2.2.2.2.2.2.2.2.2.2.2.1, y2.2.2.2.2.2.2.2.2.2.2.2.2.2.2.2.2.2.1, y2.2.2.2.2.2.2.2.2.2.2.2.2.2.2.2.2.2.2.1, y2.2.2.2.2.2.2.2.2.2.2.2.2.2.2.2.2.2.2.2.1, ()))
 else
 none
 else
 none
 else
 bif !y2.2.2.2.2.2.2.1 then
 bif inRange y2.2.2.1 6 then
 bif y2.2.2.2.2.1 == List.getD [y2.2.2.2.2.2.2.2.2.2.2.2.2.2.2.1, y2.2.2.2.2.2.2.2.2.2.2.2.2.2.2.2.1, y2.2.2.2.2.2.2.2.2.2.2.2.2.2.2.2.2.1, y2.2.2.2.2.2.2.2.2.2.2.2.2.2.2.2.2.2.1, y2.2.2.2.2.2.2.2.2.2.2.2.2.2.2.2.2.2.2.1, y2.2.2.2.2.2.2.2.2.2.2.2.2.2.2.2.2.2.2.2.1] (Int.toNat y2.2.2.1) 0 then
 bif inRange y2.2.2.1 6 then
 Option.bind (f48 y2.2.2.2.1 (List.getD [y2.2.2.2.2.2.2.2.2.1, y2.2.2.2.2.2.2.2.2.2.1, y2.2.2.2.2.2.2.2.2.2.2.1, y2.2.2.2.2.2.2.2.2.2.2.2.1, y2.2.2.2.2.2.2.2.2.2.2.2.2.1, y2.2.2.2.2.2.2.2.2.2.2.2.2.2.1] (Int.toNat y2.2.2.1) 0)) fun y7 =>
 some (Sum.inl (y2.1, y2.2.1, y2.2.2.1, y7.1, y2.2.2.2.2.1, y2.2.2.2.2.2.1, y2.2.2.2.2.2.2.1, y2.2.2.2.2.2.2.2.1, y2.2.2.2.2.2.2.2.2.1, y2.2.2.2.2.2.2.2.2.2.1, y2.2.2.2.2.2.2.2.2.2.2.1, y2.2.2.2.2.2.2.2.2.2.2.2.1, y2.2.2.2.2.2.2.2.2.2.2.2.2.1, y2.2.2.2.2.2.2.2.2.2.2.2.2.2.1, y2.2.2.2.2.2.2.2.2.2.2.2.2.2.2.1, y2.2.2.2.2.2.2.2.2.2.2.2.2.2.2.2.1, y2.2.2.2.2.2.2.2.2.2.2.2.2.2.2.2.2.1, y2.2.2.2.2.2.2.2.2.2.2.2.2.2.2.2.2.2.1, y2.2.2.2.2.2.2.2.2.2.2.2.2.2.2.2.2.2.2.1, y2.2.2.2.2.2.2.2.2.2.2.2.2.2.2.2.2.2.2.2.1, ()))
 else
 none
 else
 bif inRange y2.2.2.1 6 then
 Option.bind (f48 y2.2.2.2.2.1 (List.getD [y2.2.2.2.2.2.2.2.2.2.2.2.2.2.2.1, y2.2.2.2.2.2.2.2.2.2.2.2.2.2.2.2.1, y2.2.2.2.2.2.2.2.2.2.2.2.2.2.2.2.2.1, y2.2.2.2.2.2.2.2.2.2.2.2.2.2.2.2.2.2.1, y2.2.2.2.2.2.2.2.2.2.2.2.2.2.2.2.2.2.2.1, y2.2.2.2.2.2.2.2.2.2.2.2.2.2.2.2.2.2.2.2.1] (Int.toNat y2.2.2.1) 0)) fun y8 =>
 some (Sum.inl (y2.1, y2.2.1, y2.2.2.1, y2.2.2.2.1, y8.1, y2.2.2.2.2.2.1, y2.2.2.2.2.2.2.1, y2.2.2.2.2.2.2.2.1, y2.2.2.2.2.2.2.2.2.1, y2.2.2.2.2.2.2.2.2.2.1, y2.2.2.2.2.2.2.2.2.2.2.1, y2.2.2.2.2.2.2.2.2.2.2.2.1, y2.2.2.2.2.2.2.2.2.2.2.2.2.1, y2.2.2.2.2.2.2.2.2.2.2.2.2.2.1, y2.2.2.2.2.2.2.2.2.2.2.2.2.2.2.1, y2.2.2.2.2.2.2.2.2.2.2.2.2.2.2.2.1, y2.2.2.2.2.2.2.2.2.2.2.2.2.2.2.2.2.1, y2.2.2.2.2.2.2.2.2.2.2.2.2.2.2.2.2.2.1, y2.2.2.2.2.2.2.2.2.2.2.2.2.2.2.2.2.2.2.1, y2.2.2.2.2.2.2.2.2.2.2.2.2.2.2.2.2.2.2.2.1, ()))
 else
 none
 else
 none
 else
 bif inRange y2.2.2.1 6 then
 Option.bind (f48 y2.2.2.2.2.1 (List.getD [y2.2.2.2.2.2.2.2.2.2.2.2.2.2.2.1, y2.2.2.2.2.2.2.2.2.2.2.2.2.2.2.2.1, y2.2.2.2.2.2.2.2.2.2.2.2.2.2.2.2.2.1, y2.2.2.2.2.2.2.2.2.2.2.2.2.2.2.2.2.2.1, y2.2.2.2.2.2.2.2.2.2.2.2.2.2.2.2.2.2.2.1, y2.2.2.2.2.2.2.2.2.2.2.2.2.2.2.2.2.2.2.2.1] (Int.toNat y2.2.2.1) 0)) fun y9 =>
 some (Sum.inl (y2.1, y2.2.1, y2.2.2.1, y2.2.2.2.1, y9.1, y2.2.2.2.2.2.1, y2.2.2.2.2.2.2.1, y2.2.2.2.2.2.2.2.1, y2.2.2.2.2.2.2.2.2.1, y2.2.2.2.2.2.2.2.2.2.1, y2.2.2.2.2.2.2.2.2.2.2.1, y2.2.2.2.2.2.2.2.2.2.2.2.1, y2.2.2.2.2.2.2.2.2.2.2.2.2.1, y2.2.2.2.2.2.2.2.2.2.2.2.2.2.1, y2.2.2.2.2.2.2.2.2.2.2.2.2.2.2.1, y2.2.2.2.2.2.2.2.2.2.2.2.2.2.2.2.1, y2.2.2.2.2.2.2.2.2.2.2.2.2.2.2.2.2.1, y2.2.2.2.2.2.2.2.2.2.2.2.2.2.2.2.2.2.1, y2.2.2.2.2.2.2.2.2.2.2.2.2.2.2.2.2.2.2.1, y2.2.2.2.2.2.2.2.2.2.2.2.2.2.2.2.2.2.2.2.1, ()))
 else
 none
 ) fun y10 =>
 Sum.elim (fun y11 =>
 Option.bind (f47 y11.2.2.2.1 y11.2.2.2.2.1 y11.2.2.2.2.2.1 y11.2.2.2.2.2.2.2.1) fun y12 =>
 rec (y11.1, y11.2.1, y11.2.2.1, y11.2.2.2.1, y11.2.2.2.2.1, y12.1, y11.2.2.2.2.2.2.1, y12.2.1, y11.2.2.2.2.2.2.2.2.1, y11.2.2.2.2.2.2.2.2.2.1, y11.2.2.2.2.2.2.2.2.2.2.1, y11.2.2.2.2.2.2.2.2.2.2.2.1, y11.2.2.2.2.2.2.2.2.2.2.2.2.1, y11.2.2.2.2.2.2.2.2.2.2.2.2.2.1, y11.2.2.2.2.2.2.2.2.2.2.2.2.2.2.1, y11.2.2.2.2.2.2.2.2.2.2.2.2.2.2.2.1, y11.2.2.2.2.2.2.2.2.2.2.2.2.2.2.2.2.1, y11.2.2.2.2.2.2.2.2.2.2.2.2.2.2.2.2.2.1, y11.2.2.2.2.2.2.2.2.2.2.2.2.2.2.2.2.2.2.1, y11.2.2.2.2.2.2.2.2.2.2.2.2.2.2.2.2.2.2.2.1, ())
 ) (fun z13 =>
 some (z13)
 ) (y10)
 ) (fun z14 =>
 some (z14)
 ) (y1)
 ) (100000000000000000000) (x)
def f40.L4 (x : Int × Int × Int × Bool × Int × List Int × List Int × Unit) : Option (Int × Int × Bool × List Int × List Int × Unit ⊕ List Int × List E11 × List (Int × Int × Int × Int) × Unit) :=
 it (X := Int × Int × Int × Bool × Int × List Int × List Int × Unit) (fun rec x =>
 bif decide (x.2.2.2.2.1 < 384) then
 bif !x.2.2.2.1 then
 bif inRange x.2.2.2.2.1 (List.length x.2.2.2.2.2.1) then
 bif List.getD x.2.2.2.2.2.1 (Int.toNat x.2.2.2.2.1) 0 == 1 then
 bif inRange x.2.2.2.2.1 (List.length x.2.2.2.2.2.2.1) then
 bif inRange x.2.2.1 (List.length x.2.2.2.2.2.2.1) then
 bif List.getD x.2.2.2.2.2.2.1 (Int.toNat x.2.2.2.2.1) 0 == IntKind.wrap .i64 (Int.tdiv (List.getD x.2.2.2.2.2.2.1 (Int.toNat x.2.2.1) 0) 2) then
 bif inRange x.2.2.2.2.1 (List.length x.2.2.2.2.2.1) then
 rec (x.1, x.2.1, x.2.2.1, Bool.true, IntKind.wrap .i64 (x.2.2.2.2.1 + 1), List.set x.2.2.2.2.2.1 (Int.toNat x.2.2.2.2.1) 5, x.2.2.2.2.2.2.1, ())
 else
 none
 else
 rec (x.1, x.2.1, x.2.2.1, x.2.2.2.1, IntKind.wrap .i64 (x.2.2.2.2.1 + 1), x.2.2.2.2.2.1, x.2.2.2.2.2.2.1, ())
 else
 none
 else
 none
 else
 rec (x.1, x.2.1, x.2.2.1, x.2.2.2.1, IntKind.wrap .i64 (x.2.2.2.2.1 + 1), x.2.2.2.2.2.1, x.2.2.2.2.2.2.1, ())
 else
 none
 else
 some (Sum.inl (x.1, x.2.1, x.2.2.2.1, x.2.2.2.2.2.1, x.2.2.2.2.2.2.1, ()))
 else
 some (Sum.inl (x.1, x.2.1, x.2.2.2.1, x.2.2.2.2.2.1, x.2.2.2.2.2.2.1, ()))
 ) (100000000000000000000) (x)
def f40.L5 (x : Int × Int × Bool × Int × List Int × List Int × List Bool × List E11 × Unit) : Option (Int × Int × Bool × List Int × List Int × List E11 × Unit ⊕ List Int × List E11 × List (Int × Int × Int × Int) × Unit) :=
 it (X := Int × Int × Bool × Int × List Int × List Int × List Bool × List E11 × Unit) (fun rec x =>
 bif decide (x.2.2.2.1 ≤ IntKind.wrap .i64 (x.2.1 + 1)) then
 Option.bind (f49 x.2.2.2.2.1 x.2.2.2.2.2.1 4 x.2.2.2.2.2.2.1 x.1 x.2.1 (IntKind.wrap .i64 (7 + x.2.2.2.1))) fun y0 =>
 bif decide (y0.1 < 0) then
 some (Sum.inl (x.1, x.2.1, x.2.2.1, x.2.2.2.2.1, x.2.2.2.2.2.1, x.2.2.2.2.2.2.2.1, ()))
 else
 bif inRange y0.1 (List.length x.2.2.2.2.2.2.1) then
 Option.bind (f46 x.1 x.2.1 (IntKind.wrap .i64 (16 + x.2.2.2.1)) 1 (minI (IntKind.wrap .i64 (x.2.1 + 1)) 3)) fun y1 =>
 Option.bind (f25 (IntKind.wrap .i64 (2 + y1.1))) fun y2 =>
 bif decide (List.length x.2.2.2.2.2.2.2.1 + 1 ≤ limit 88) then
 rec (x.1, x.2.1, x.2.2.1, IntKind.wrap .i64 (x.2.2.2.1 + 1), x.2.2.2.2.1, x.2.2.2.2.2.1, List.set x.2.2.2.2.2.2.1 (Int.toNat y0.1) Bool.true, x.2.2.2.2.2.2.2.1 ++ [(y2.1, y2.2.1, y2.2.2.1, Int.tmod y0.1 24, IntKind.wrap .i64 (Int.tdiv y0.1 24), y2.2.2.2.2.2.1, y2.2.2.2.2.2.2.1, y2.2.2.2.2.2.2.2.1, y2.2.2.2.2.2.2.2.2.1, y2.2.2.2.2.2.2.2.2.2.1, y2.2.2.2.2.2.2.2.2.2.2.1)], ())
 else
 none
 else
 none
 else
 some (Sum.inl (x.1, x.2.1, x.2.2.1, x.2.2.2.2.1, x.2.2.2.2.2.1, x.2.2.2.2.2.2.2.1, ()))
 ) (100000000000000000000) (x)
def f40.L6 (x : Int × Int × Bool × Int × List Int × List E11 × List (Int × Int × Int × Int) × Unit) : Option (List Int × List E11 × List (Int × Int × Int × Int) × Unit ⊕ List Int × List E11 × List (Int × Int × Int × Int) × Unit) :=
 it (X := Int × Int × Bool × Int × List Int × List E11 × List (Int × Int × Int × Int) × Unit) (fun rec x =>
 bif decide (x.2.2.2.1 < 3) then
 bif x.2.2.1 then
 Option.bind (f46 x.1 x.2.1 (IntKind.wrap .i64 (50 + x.2.2.2.1)) 1 3) fun y0 =>
 bif decide (List.length x.2.2.2.2.2.2.1 + 1 ≤ limit 32) then
 rec (x.1, x.2.1, x.2.2.1, IntKind.wrap .i64 (x.2.2.2.1 + 1), x.2.2.2.2.1, x.2.2.2.2.2.1, x.2.2.2.2.2.2.1 ++ [(IntKind.wrap .i64 (1 + y0.1), 4, x.2.2.2.1, 0)], ())
 else
 none
 else
 some (Sum.inl (x.2.2.2.2.1, x.2.2.2.2.2.1, x.2.2.2.2.2.2.1, ()))
 else
 some (Sum.inl (x.2.2.2.2.1, x.2.2.2.2.2.1, x.2.2.2.2.2.2.1, ()))
 ) (100000000000000000000) (x)
def f40.L7 (x : Int × Int × Bool × Int × List Int × List Int × List Bool × List E11 × List (Int × Int × Int × Int) × Unit) : Option (List Int × List E11 × List (Int × Int × Int × Int) × Unit) :=
 it (X := Int × Int × Bool × Int × List Int × List Int × List Bool × List E11 × List (Int × Int × Int × Int) × Unit) (fun rec x =>
 bif decide (x.2.2.2.1 < 4) then
 Option.bind (f49 x.2.2.2.2.1 x.2.2.2.2.2.1 0 x.2.2.2.2.2.2.1 x.1 x.2.1 (IntKind.wrap .i64 (40 + x.2.2.2.1))) fun y0 =>
 bif decide (y0.1 < 0) then
 rec (x.1, x.2.1, x.2.2.1, IntKind.wrap .i64 (x.2.2.2.1 + 1), x.2.2.2.2.1, x.2.2.2.2.2.1, x.2.2.2.2.2.2.1, x.2.2.2.2.2.2.2.1, x.2.2.2.2.2.2.2.2.1, ())
 else
 bif inRange y0.1 (List.length x.2.2.2.2.2.2.1) then
 Option.bind (f46 x.1 x.2.1 (IntKind.wrap .i64 (40 + x.2.2.2.1)) 1 4) fun y1 =>
 bif decide (List.length x.2.2.2.2.2.2.2.2.1 + 1 ≤ limit 32) then
 rec (x.1, x.2.1, x.2.2.1, IntKind.wrap .i64 (x.2.2.2.1 + 1), x.2.2.2.2.1, x.2.2.2.2.2.1, List.set x.2.2.2.2.2.2.1 (Int.toNat y0.1) Bool.true, x.2.2.2.2.2.2.2.1, x.2.2.2.2.2.2.2.2.1 ++ [(IntKind.wrap .i64 (1 + y1.1), 1, Int.tmod y0.1 24, IntKind.wrap .i64 (Int.tdiv y0.1 24))], ())
 else
 none
 else
 none
 else
 Option.bind (α := List Int × List E11 × List (Int × Int × Int × Int) × Unit ⊕ List Int × List E11 × List (Int × Int × Int × Int) × Unit) (
 f40.L6 ((x.1, x.2.1, x.2.2.1, 0, x.2.2.2.2.1, x.2.2.2.2.2.2.2.1, x.2.2.2.2.2.2.2.2.1, ()))
 ) fun y2 =>
 Sum.elim (fun y3 =>
 some ((y3.1, y3.2.1, y3.2.2.1, ()))
 ) (fun z4 =>
 some (z4)
 ) (y2)
 ) (100000000000000000000) (x)
def f40.L8 (x : Int × Int × Int × Int × List Int × List Int × Unit) : Option (List Int × List E11 × List (Int × Int × Int × Int) × Unit) :=
 it (X := Int × Int × Int × Int × List Int × List Int × Unit) (fun rec x =>
 bif decide (x.2.2.2.1 < 384) then
 bif inRange x.2.2.2.1 (List.length x.2.2.2.2.2.1) then
 bif inRange x.2.2.1 (List.length x.2.2.2.2.2.1) then
 bif decide (List.getD x.2.2.2.2.2.1 (Int.toNat x.2.2.2.1) 0 > List.getD x.2.2.2.2.2.1 (Int.toNat x.2.2.1) 0) then
 rec (x.1, x.2.1, x.2.2.2.1, IntKind.wrap .i64 (x.2.2.2.1 + 1), x.2.2.2.2.1, x.2.2.2.2.2.1, ())
 else
 rec (x.1, x.2.1, x.2.2.1, IntKind.wrap .i64 (x.2.2.2.1 + 1), x.2.2.2.2.1, x.2.2.2.2.2.1, ())
 else
 none
 else
 none
 else
 bif inRange x.2.2.1 (List.length x.2.2.2.2.1) then
 Option.bind (α := Int × Int × Bool × List Int × List Int × Unit ⊕ List Int × List E11 × List (Int × Int × Int × Int) × Unit) (
 Option.bind (f46 x.1 x.2.1 6 0 2) fun y0 =>
 bif y0.1 == 0 then
 f40.L4 ((x.1, x.2.1, x.2.2.1, Bool.false, 0, List.set x.2.2.2.2.1 (Int.toNat x.2.2.1) 4, x.2.2.2.2.2.1, ()))
 else
 some (Sum.inl (x.1, x.2.1, Bool.false, List.set x.2.2.2.2.1 (Int.toNat x.2.2.1) 4, x.2.2.2.2.2.1, ()))
 ) fun y1 =>
 Sum.elim (fun y2 =>
 Option.bind (α := Int × Int × Bool × List Int × List Int × List E11 × Unit ⊕ List Int × List E11 × List (Int × Int × Int × Int) × Unit) (
 f40.L5 ((y2.1, y2.2.1, y2.2.2.1, 0, y2.2.2.2.1, y2.2.2.2.2.1, List.replicate 384 Bool.false, [], ()))
 ) fun y3 =>
 Sum.elim (fun y4 =>
 f40.L7 ((y4.1, y4.2.1, y4.2.2.1, 0, y4.2.2.2.1, y4.2.2.2.2.1, List.replicate 384 Bool.false, y4.2.2.2.2.2.1, [], ()))
 ) (fun z5 =>
 some (z5)
 ) (y3)
 ) (fun z6 =>
 some (z6)
 ) (y1)
 else
 none
 ) (100000000000000000000) (x)
def f40.L9 (x : Int × Int × Int × List Int × Int × Int × Int × Int × Int × Int × Int × Int × Int × Int × Int × Int × Unit) : Option (List Int × List E11 × List (Int × Int × Int × Int) × Unit) :=
 it (X := Int × Int × Int × List Int × Int × Int × Int × Int × Int × Int × Int × Int × Int × Int × Int × Int × Unit) (fun rec x =>
 bif decide (x.2.2.1 < 6) then
 bif inRange (IntKind.wrap .i64 (x.2.2.1 - 1)) 6 then
 bif inRange (IntKind.wrap .i64 (x.2.2.1 - 1)) 6 then
 Option.bind (f47 (List.getD [x.2.2.2.2.1, x.2.2.2.2.2.1, x.2.2.2.2.2.2.1, x.2.2.2.2.2.2.2.1, x.2.2.2.2.2.2.2.2.1, x.2.2.2.2.2.2.2.2.2.1] (Int.toNat (IntKind.wrap .i64 (x.2.2.1 - 1))) 0) (List.getD [x.2.2.2.2.2.2.2.2.2.2.1, x.2.2.2.2.2.2.2.2.2.2.2.1, x.2.2.2.2.2.2.2.2.2.2.2.2.1, x.2.2.2.2.2.2.2.2.2.2.2.2.2.1, x.2.2.2.2.2.2.2.2.2.2.2.2.2.2.1, x.2.2.2.2.2.2.2.2.2.2.2.2.2.2.2.1] (Int.toNat (IntKind.wrap .i64 (x.2.2.1 - 1))) 0) Bool.false x.2.2.2.1) fun y0 =>
 Option.bind (f46 x.1 x.2.1 x.2.2.1 4 2) fun y1 =>
 f40.L3 rec ((x.1, x.2.1, x.2.2.1, List.getD [x.2.2.2.2.1, x.2.2.2.2.2.1, x.2.2.2.2.2.2.1, x.2.2.2.2.2.2.2.1, x.2.2.2.2.2.2.2.2.1, x.2.2.2.2.2.2.2.2.2.1] (Int.toNat (IntKind.wrap .i64 (x.2.2.1 - 1))) 0, List.getD [x.2.2.2.2.2.2.2.2.2.2.1, x.2.2.2.2.2.2.2.2.2.2.2.1, x.2.2.2.2.2.2.2.2.2.2.2.2.1, x.2.2.2.2.2.2.2.2.2.2.2.2.2.1, x.2.2.2.2.2.2.2.2.2.2.2.2.2.2.1, x.2.2.2.2.2.2.2.2.2.2.2.2.2.2.2.1] (Int.toNat (IntKind.wrap .i64 (x.2.2.1 - 1))) 0, y0.1, y1.1 == 0, y0.2.1, x.2.2.2.2.1, x.2.2.2.2.2.1, x.2.2.2.2.2.2.1, x.2.2.2.2.2.2.2.1, x.2.2.2.2.2.2.2.2.1, x.2.2.2.2.2.2.2.2.2.1, x.2.2.2.2.2.2.2.2.2.2.1, x.2.2.2.2.2.2.2.2.2.2.2.1, x.2.2.2.2.2.2.2.2.2.2.2.2.1, x.2.2.2.2.2.2.2.2.2.2.2.2.2.1, x.2.2.2.2.2.2.2.2.2.2.2.2.2.2.1, x.2.2.2.2.2.2.2.2.2.2.2.2.2.2.2.1, ()))
 else
 none
 else
 none
 else
 bif inRange (IntKind.wrap .i64 (IntKind.wrap .i64 (x.2.2.2.2.2.2.2.2.2.2.1 * 24) + x.2.2.2.2.1)) (List.length x.2.2.2.1) then
 Option.bind (f27 (List.set x.2.2.2.1 (Int.toNat (IntKind.wrap .i64 (IntKind.wrap .i64 (x.2.2.2.2.2.2.2.2.2.2.1 * 24) + x.2.2.2.2.1))) 3) [] [IntKind.wrap .i64 (IntKind.wrap .i64 (x.2.2.2.2.2.2.2.2.2.2.1 * 24) + x.2.2.2.2.1)]) fun y2 =>
 f40.L8 ((x.1, x.2.1, IntKind.wrap .i64 (IntKind.wrap .i64 (x.2.2.2.2.2.2.2.2.2.2.1 * 24) + x.2.2.2.2.1), 0, List.set x.2.2.2.1 (Int.toNat (IntKind.wrap .i64 (IntKind.wrap .i64 (x.2.2.2.2.2.2.2.2.2.2.1 * 24) + x.2.2.2.2.1))) 3, y2.1, ()))
 else
 none
 ) (100000000000000000000) (x)
def f40.L10 (x : Int × Int × Int × List Int × Int × Int × Int × Int × Int × Int × Int × Int × Int × Int × Int × Int × Unit) : Option (List Int × List E11 × List (Int × Int × Int × Int) × Unit) :=
 it (X := Int × Int × Int × List Int × Int × Int × Int × Int × Int × Int × Int × Int × Int × Int × Int × Int × Unit) (fun rec x =>
 bif decide (x.2.2.1 < 6) then
 Option.bind (f46 x.1 x.2.1 x.2.2.1 0 5) fun y0 =>
 Option.bind (f46 x.1 x.2.1 x.2.2.1 1 4) fun y1 =>
 Option.bind (f46 x.1 x.2.1 x.2.2.1 2 (IntKind.wrap .i64 (23 - IntKind.wrap .i64 (3 + y0.1)))) fun y2 =>
 Option.bind (f46 x.1 x.2.1 x.2.2.1 3 (IntKind.wrap .i64 (15 - IntKind.wrap .i64 (2 + y1.1)))) fun y3 =>
 f40.L2 rec ((x.1, x.2.1, x.2.2.1, IntKind.wrap .i64 (3 + y0.1), IntKind.wrap .i64 (2 + y1.1), IntKind.wrap .i64 (1 + y2.1), IntKind.wrap .i64 (1 + y3.1), IntKind.wrap .i64 (1 + y3.1), x.2.2.2.1, x.2.2.2.2.1, x.2.2.2.2.2.1, x.2.2.2.2.2.2.1, x.2.2.2.2.2.2.2.1, x.2.2.2.2.2.2.2.2.1, x.2.2.2.2.2.2.2.2.2.1, x.2.2.2.2.2.2.2.2.2.2.1, x.2.2.2.2.2.2.2.2.2.2.2.1, x.2.2.2.2.2.2.2.2.2.2.2.2.1, x.2.2.2.2.2.2.2.2.2.2.2.2.2.1, x.2.2.2.2.2.2.2.2.2.2.2.2.2.2.1, x.2.2.2.2.2.2.2.2.2.2.2.2.2.2.2.1, ()))
 else
 f40.L9 ((x.1, x.2.1, 1, x.2.2.2.1, x.2.2.2.2.1, x.2.2.2.2.2.1, x.2.2.2.2.2.2.1, x.2.2.2.2.2.2.2.1, x.2.2.2.2.2.2.2.2.1, x.2.2.2.2.2.2.2.2.2.1, x.2.2.2.2.2.2.2.2.2.2.1, x.2.2.2.2.2.2.2.2.2.2.2.1, x.2.2.2.2.2.2.2.2.2.2.2.2.1, x.2.2.2.2.2.2.2.2.2.2.2.2.2.1, x.2.2.2.2.2.2.2.2.2.2.2.2.2.2.1, x.2.2.2.2.2.2.2.2.2.2.2.2.2.2.2.1, ()))
 ) (100000000000000000000) (x)
def f40 (a0 : Int) (a1 : Int) : Option (List Int × List E11 × List (Int × Int × Int × Int) × Unit) :=
 f40.L10 ((a0, a1, 0, List.replicate 384 0, 0, 0, 0, 0, 0, 0, 0, 0, 0, 0, 0, 0, ()))
def f40.ins : Shape := ⟨[(0, .c (.int .i64)), (1, .c (.int .i64))], []⟩
def f40.outs : List Shape := [⟨[(0, .agg [.own 0, .own 1, .own 2])], [(0, .arr (.int .u8)), (1, .arr (.prod (.int .i64) (.prod (.int .i64) (.prod (.int .i64) (.prod (.int .i64) (.prod (.int .i64) (.prod (.int .i64) (.prod (.int .i64) (.prod (.int .i64) (.prod (.int .i64) (.prod (.int .i64) (.int .i64)))))))))))), (2, .arr (.prod (.int .i64) (.prod (.int .i64) (.prod (.int .i64) (.int .i64)))))]⟩]
def f40.S : FnSpec := ⟨f40.ins, f40.outs, [], fun x => f40 x.1 x.2.1⟩
def f40.E (fuel : Nat) : Env := ⟨tis, [(46, f46.S), (47, f47.S), (48, f48.S), (27, f27.S), (49, f49.S), (25, f25.S)], [], [(24, ⟨[(0, .c (.int .i64)), (1, .c (.int .i64)), (4, .c (.ptr 0 0)), (5, .c (.own 1)), (6, .c (.ptr 2 0)), (7, .c (.ptr 3 0)), (15, .c (.int .i64)), (16, .c (.int .i64)), (17, .c (.int .i64)), (18, .c (.bool)), (19, .c (.bool))], [(0, .box [.nils, .nils, .nils]), (1, .arr (.int .u8)), (2, .box [.int .i64, .int .i64, .int .i64, .int .i64, .int .i64, .int .i64]), (3, .box [.int .i64, .int .i64, .int .i64, .int .i64, .int .i64, .int .i64])]⟩), (27, ⟨[(0, .c (.int .i64)), (1, .c (.int .i64)), (4, .c (.ptr 0 0)), (5, .c (.own 1)), (6, .c (.ptr 2 0)), (7, .c (.ptr 3 0)), (15, .c (.int .i64)), (16, .c (.int .i64)), (17, .c (.int .i64)), (18, .c (.bool)), (19, .c (.bool))], [(0, .box [.nils, .nils, .nils]), (1, .arr (.int .u8)), (2, .box [.int .i64, .int .i64, .int .i64, .int .i64, .int .i64, .int .i64]), (3, .box [.int .i64, .int .i64, .int .i64, .int .i64, .int .i64, .int .i64])]⟩), (46, ⟨[(0, .c (.int .i64)), (1, .c (.int .i64)), (4, .c (.ptr 0 0)), (5, .c (.own 1)), (21, .c (.own 2)), (24, .c (.bool))], [(0, .box [.nils, .nils, .nils]), (1, .arr (.int .u8)), (2, .arr (.int .i64))]⟩), (57, ⟨[(0, .c (.int .i64)), (1, .c (.int .i64)), (4, .c (.ptr 0 0)), (5, .c (.own 1)), (21, .c (.own 2)), (24, .c (.bool)), (26, .c (.ptr 3 0))], [(0, .box [.nils, .nils, .nils]), (1, .arr (.int .u8)), (2, .arr (.int .i64)), (3, .box [.own 1, .own 4, .nils]), (4, .arr (.prod (.int .i64) (.prod (.int .i64) (.prod (.int .i64) (.prod (.int .i64) (.prod (.int .i64) (.prod (.int .i64) (.prod (.int .i64) (.prod (.int .i64) (.prod (.int .i64) (.prod (.int .i64) (.int .i64))))))))))))]⟩), (69, ⟨[(4, .c (.ptr 0 0)), (26, .c (.ptr 1 0))], [(0, .box [.nils, .nils, .nils]), (1, .box [.own 2, .own 3, .own 4]), (2, .arr (.int .u8)), (3, .arr (.prod (.int .i64) (.prod (.int .i64) (.prod (.int .i64) (.prod (.int .i64) (.prod (.int .i64) (.prod (.int .i64) (.prod (.int .i64) (.prod (.int .i64) (.prod (.int .i64) (.prod (.int .i64) (.int .i64)))))))))))), (4, .arr (.prod (.int .i64) (.prod (.int .i64) (.prod (.int .i64) (.int .i64)))))]⟩)], [(5, ⟨[(0, .c (.int .i64)), (1, .c (.int .i64)), (4, .c (.ptr 0 0)), (5, .c (.own 1)), (6, .c (.ptr 2 0)), (7, .c (.ptr 3 0)), (8, .c (.int .i64))], [(0, .box [.nils, .nils, .nils]), (1, .arr (.int .u8)), (2, .box [.int .i64, .int .i64, .int .i64, .int .i64, .int .i64, .int .i64]), (3, .box [.int .i64, .int .i64, .int .i64, .int .i64, .int .i64, .int .i64])]⟩), (10, ⟨[(0, .c (.int .i64)), (1, .c (.int .i64)), (4, .c (.ptr 0 0)), (5, .c (.own 1)), (6, .c (.ptr 2 0)), (7, .c (.ptr 3 0)), (8, .c (.int .i64)), (9, .c (.int .i64)), (10, .c (.int .i64)), (11, .c (.int .i64)), (12, .c (.int .i64)), (13, .c (.int .i64))], [(0, .box [.nils, .nils, .nils]), (1, .arr (.int .u8)), (2, .box [.int .i64, .int .i64, .int .i64, .int .i64, .int .i64, .int .i64]), (3, .box [.int .i64, .int .i64, .int .i64, .int .i64, .int .i64, .int .i64])]⟩), (13, ⟨[(0, .c (.int .i64)), (1, .c (.int .i64)), (4, .c (.ptr 0 0)), (5, .c (.own 1)), (6, .c (.ptr 2 0)), (7, .c (.ptr 3 0)), (8, .c (.int .i64)), (9, .c (.int .i64)), (10, .c (.int .i64)), (11, .c (.int .i64)), (12, .c (.int .i64)), (13, .c (.int .i64)), (14, .c (.int .i64))], [(0, .box [.nils, .nils, .nils]), (1, .arr (.int .u8)), (2, .box [.int .i64, .int .i64, .int .i64, .int .i64, .int .i64, .int .i64]), (3, .box [.int .i64, .int .i64, .int .i64, .int .i64, .int .i64, .int .i64])]⟩), (18, ⟨[(0, .c (.int .i64)), (1, .c (.int .i64)), (4, .c (.ptr 0 0)), (5, .c (.own 1)), (6, .c (.ptr 2 0)), (7, .c (.ptr 3 0)), (15, .c (.int .i64))], [(0, .box [.nils, .nils, .nils]), (1, .arr (.int .u8)), (2, .box [.int .i64, .int .i64, .int .i64, .int .i64, .int .i64, .int .i64]), (3, .box [.int .i64, .int .i64, .int .i64, .int .i64, .int .i64, .int .i64])]⟩), (23, ⟨[(0, .c (.int .i64)), (1, .c (.int .i64)), (4, .c (.ptr 0 0)), (5, .c (.own 1)), (6, .c (.ptr 2 0)), (7, .c (.ptr 3 0)), (15, .c (.int .i64)), (16, .c (.int .i64)), (17, .c (.int .i64)), (18, .c (.bool)), (19, .c (.bool))], [(0, .box [.nils, .nils, .nils]), (1, .arr (.int .u8)), (2, .box [.int .i64, .int .i64, .int .i64, .int .i64, .int .i64, .int .i64]), (3, .box [.int .i64, .int .i64, .int .i64, .int .i64, .int .i64, .int .i64])]⟩), (33, ⟨[(0, .c (.int .i64)), (1, .c (.int .i64)), (4, .c (.ptr 0 0)), (5, .c (.own 1)), (21, .c (.own 2)), (22, .c (.int .i64)), (23, .c (.int .i64))], [(0, .box [.nils, .nils, .nils]), (1, .arr (.int .u8)), (2, .arr (.int .i64))]⟩), (41, ⟨[(0, .c (.int .i64)), (1, .c (.int .i64)), (4, .c (.ptr 0 0)), (5, .c (.own 1)), (21, .c (.own 2)), (22, .c (.int .i64)), (24, .c (.bool)), (25, .c (.int .i64))], [(0, .box [.nils, .nils, .nils]), (1, .arr (.int .u8)), (2, .arr (.int .i64))]⟩), (49, ⟨[(0, .c (.int .i64)), (1, .c (.int .i64)), (4, .c (.ptr 0 0)), (5, .c (.own 1)), (21, .c (.own 2)), (24, .c (.bool)), (26, .c (.ptr 3 0)), (27, .c (.own 4)), (28, .c (.int .i64))], [(0, .box [.nils, .nils, .nils]), (1, .arr (.int .u8)), (2, .arr (.int .i64)), (3, .box [.own 1, .own 5, .nils]), (4, .arr .bool), (5, .arr (.prod (.int .i64) (.prod (.int .i64) (.prod (.int .i64) (.prod (.int .i64) (.prod (.int .i64) (.prod (.int .i64) (.prod (.int .i64) (.prod (.int .i64) (.prod (.int .i64) (.prod (.int .i64) (.int .i64))))))))))))]⟩), (59, ⟨[(0, .c (.int .i64)), (1, .c (.int .i64)), (4, .c (.ptr 0 0)), (5, .c (.own 1)), (21, .c (.own 2)), (24, .c (.bool)), (26, .c (.ptr 3 0)), (27, .c (.own 4)), (31, .c (.int .i64))], [(0, .box [.nils, .nils, .nils]), (1, .arr (.int .u8)), (2, .arr (.int .i64)), (3, .box [.own 1, .own 5, .own 6]), (4, .arr .bool), (5, .arr (.prod (.int .i64) (.prod (.int .i64) (.prod (.int .i64) (.prod (.int .i64) (.prod (.int .i64) (.prod (.int .i64) (.prod (.int .i64) (.prod (.int .i64) (.prod (.int .i64) (.prod (.int .i64) (.int .i64)))))))))))), (6, .arr (.prod (.int .i64) (.prod (.int .i64) (.prod (.int .i64) (.int .i64)))))]⟩), (66, ⟨[(0, .c (.int .i64)), (1, .c (.int .i64)), (4, .c (.ptr 0 0)), (24, .c (.bool)), (26, .c (.ptr 1 0)), (33, .c (.int .i64))], [(0, .box [.nils, .nils, .nils]), (1, .box [.own 2, .own 3, .own 4]), (2, .arr (.int .u8)), (3, .arr (.prod (.int .i64) (.prod (.int .i64) (.prod (.int .i64) (.prod (.int .i64) (.prod (.int .i64) (.prod (.int .i64) (.prod (.int .i64) (.prod (.int .i64) (.prod (.int .i64) (.prod (.int .i64) (.int .i64)))))))))))), (4, .arr (.prod (.int .i64) (.prod (.int .i64) (.prod (.int .i64) (.int .i64)))))]⟩)], [], 0, [], fuel⟩
theorem f40.run : ∀ x, runFn (f40.E 100000000000000000000) Go.Proofs.Try.f40 ((Go.Proofs.Try.f40.body).getD .skip) f40.S x = f40.S.f x := by intro x; kernel_rfl
theorem f40.sound : Sound Go.Proofs.Try.prog 40 f40.S := sound_of_run (fun _ => f40.E 100000000000000000000) (by kernel_rfl) (by kernel_rfl) (by kernel_rfl) orders (fun _ => ⟨tis_ok, EqsOk.nil _, (FnsOk.cons f46.sound (FnsOk.cons f47.sound (FnsOk.cons f48.sound (FnsOk.cons f27.sound (FnsOk.cons f49.sound (FnsOk.cons f25.sound FnsOk.nil))))))⟩) (fun _ => rfl) (by kernel_rfl) (by kernel_rfl) (fun x r h => (f40.run x).trans h)
/-! f30: adit/aditref3.Find -/
def f30.L1 (x : List Int × Int × Int × Unit) : Option (Int × Unit) :=
 it (X := List Int × Int × Int × Unit) (fun rec x =>
 bif decide (x.2.2.1 < (↑(List.length x.1) : Int)) then
 bif decide (x.2.2.1 < 384) then
 bif inRange x.2.2.1 (List.length x.1) then
 bif IntKind.wrap .i64 (List.getD x.1 (Int.toNat x.2.2.1) 0) == x.2.1 then
 some ((x.2.2.1, ()))
 else
 rec (x.1, x.2.1, IntKind.wrap .i64 (x.2.2.1 + 1), ())
 else
 none
 else
 some ((-1, ()))
 else
 some ((-1, ()))
 ) (100000000000000000000) (x)
def f30 (a0 : List Int) (a1 : Int) : Option (Int × Unit) :=
 f30.L1 ((a0, a1, 0, ()))
def f30.ins : Shape := ⟨[(0, .c (.row (.int .u8))), (1, .c (.int .i64))], []⟩
def f30.outs : List Shape := [⟨[(0, .c (.int .i64))], []⟩]
def f30.S : FnSpec := ⟨f30.ins, f30.outs, [], fun x => f30 x.1 x.2.1⟩
def f30.E (fuel : Nat) : Env := ⟨tis, [], [], [], [(3, ⟨[(0, .c (.row (.int .u8))), (1, .c (.int .i64)), (5, .c (.int .i64))], []⟩)], [], 0, [], fuel⟩
theorem f30.run : ∀ x, runFn (f30.E 100000000000000000000) Go.Proofs.Try.f30 ((Go.Proofs.Try.f30.body).getD .skip) f30.S x = f30.S.f x := by intro x; kernel_rfl
theorem f30.sound : Sound Go.Proofs.Try.prog 30 f30.S := sound_of_run (fun _ => f30.E 100000000000000000000) (by kernel_rfl) (by kernel_rfl) (by kernel_rfl) orders (fun _ => ⟨tis_ok, EqsOk.nil _, FnsOk.nil⟩) (fun _ => rfl) (by kernel_rfl) (by kernel_rfl) (fun x r h => (f30.run x).trans h)
/-! f21: adit/aditref7.In -/
def f21.L1 (x : List (Int × Int × Int × Int) × Int × Int × Int × Int × Unit) : Option (Int × Unit) :=
 it (X := List (Int × Int × Int × Int) × Int × Int × Int × Int × Unit) (fun rec x =>
 bif decide (x.2.2.2.2.1 < (↑(List.length x.1) : Int)) then
 bif inRange x.2.2.2.2.1 (List.length x.1) then
 bif (List.getD x.1 (Int.toNat x.2.2.2.2.1) (0, 0, 0, 0)).2.1 == x.2.1 then
 bif inRange x.2.2.2.2.1 (List.length x.1) then
 bif (List.getD x.1 (Int.toNat x.2.2.2.2.1) (0, 0, 0, 0)).2.2.1 == x.2.2.1 then
 bif inRange x.2.2.2.2.1 (List.length x.1) then
 bif (List.getD x.1 (Int.toNat x.2.2.2.2.1) (0, 0, 0, 0)).2.2.2 == x.2.2.2.1 then
 some ((x.2.2.2.2.1, ()))
 else
 rec (x.1, x.2.1, x.2.2.1, x.2.2.2.1, IntKind.wrap .i64 (x.2.2.2.2.1 + 1), ())
 else
 none
 else
 rec (x.1, x.2.1, x.2.2.1, x.2.2.2.1, IntKind.wrap .i64 (x.2.2.2.2.1 + 1), ())
 else
 none
 else
 rec (x.1, x.2.1, x.2.2.1, x.2.2.2.1, IntKind.wrap .i64 (x.2.2.2.2.1 + 1), ())
 else
 none
 else
 some ((-1, ()))
 ) (100000000000000000000) (x)
def f21 (a0 : List (Int × Int × Int × Int)) (a1 : Int) (a2 : Int) (a3 : Int) : Option (Int × Unit) :=
 f21.L1 ((a0, a1, a2, a3, 0, ()))
def f21.ins : Shape := ⟨[(0, .c (.row (.prod (.int .i64) (.prod (.int .i64) (.prod (.int .i64) (.int .i64)))))), (1, .c (.int .i64)), (2, .c (.int .i64)), (3, .c (.int .i64))], []⟩
def f21.outs : List Shape := [⟨[(0, .c (.int .i64))], []⟩]
def f21.S : FnSpec := ⟨f21.ins, f21.outs, [], fun x => f21 x.1 x.2.1 x.2.2.1 x.2.2.2.1⟩
def f21.E (fuel : Nat) : Env := ⟨tis, [], [], [], [(3, ⟨[(0, .c (.row (.prod (.int .i64) (.prod (.int .i64) (.prod (.int .i64) (.int .i64)))))), (1, .c (.int .i64)), (2, .c (.int .i64)), (3, .c (.int .i64)), (9, .c (.int .i64))], []⟩)], [], 0, [], fuel⟩
theorem f21.run : ∀ x, runFn (f21.E 100000000000000000000) Go.Proofs.Try.f21 ((Go.Proofs.Try.f21.body).getD .skip) f21.S x = f21.S.f x := by intro x; kernel_rfl
theorem f21.sound : Sound Go.Proofs.Try.prog 21 f21.S := sound_of_run (fun _ => f21.E 100000000000000000000) (by kernel_rfl) (by kernel_rfl) (by kernel_rfl) orders (fun _ => ⟨tis_ok, EqsOk.nil _, FnsOk.nil⟩) (fun _ => rfl) (by kernel_rfl) (by kernel_rfl) (fun x r h => (f21.run x).trans h)
/-! f23: adit/aditlaw7.World -/
def f23.L1 (x : Int × List (Int × Int × Int × Int) × Int × Int × Int × Int × Int × Int × Int × Int × Int × Int × Int × Int × Int × Int × Int × Int × Int × Int × List Int × List Int × List E11 × List (Int × Int × Int × Int) × Unit) : Option (Int × Int × Int × Int × Int × Int × Int × Int × Int × Int × Int × Int × Int × Int × Int × Int × List Int × List E11 × List (Int × Int × Int × Int) × Unit ⊕ Int × Int × Int × Int × Int × Int × Int × Int × List Int × List E11 × List (Int × Int × Int × Int) × Unit) :=
 it (X := Int × List (Int × Int × Int × Int) × Int × Int × Int × Int × Int × Int × Int × Int × Int × Int × Int × Int × Int × Int × Int × Int × Int × Int × List Int × List Int × List E11 × List (Int × Int × Int × Int) × Unit) (fun rec x =>
 bif decide (x.2.2.2.1 < (↑(List.length x.2.1) : Int)) then
 bif decide (x.2.2.2.1 < 20) then
 bif inRange x.2.2.2.1 (List.length x.2.1) then
 Option.bind (f39 (List.getD x.2.1 (Int.toNat x.2.2.2.1) (0, 0, 0, 0)).1 4) fun y0 =>
 bif inRange x.2.2.2.1 (List.length x.2.1) then
 Option.bind (f39 (List.getD x.2.1 (Int.toNat x.2.2.2.1) (0, 0, 0, 0)).2.1 4) fun y1 =>
 Option.bind (α := Int × List (Int × Int × Int × Int) × Int × Int × Int × Int × Int × Int × Int × Int × Int × Int × Int × Int × Int × Int × Int × Int × Int × Int × List Int × Int × Int × Int × Int × List Int × List E11 × List (Int × Int × Int × Int) × Unit ⊕ Int × Int × Int × Int × Int × Int × Int × Int × Int × Int × Int × Int × Int × Int × Int × Int × List Int × List E11 × List (Int × Int × Int × Int) × Unit ⊕ Int × Int × Int × Int × Int × Int × Int × Int × List Int × List E11 × List (Int × Int × Int × Int) × Unit) (
 bif IntKind.wrap .i64 (1 + y1.1) == 1 then
 bif inRange x.2.2.2.1 (List.length x.2.1) then
 Option.bind (f39 (List.getD x.2.1 (Int.toNat x.2.2.2.1) (0, 0, 0, 0)).2.2.1 (↑(List.length x.2.2.2.2.2.2.2.2.2.2.2.2.2.2.2.2.2.2.2.2.1) : Int)) fun y2 =>
 bif inRange y2.1 (List.length x.2.2.2.2.2.2.2.2.2.2.2.2.2.2.2.2.2.2.2.2.1) then
 Option.bind (α := Int × List (Int × Int × Int × Int) × Int × Int × Int × Int × Int × Int × Int × Int × Int × Int × Int × Int × Int × Int × Int × Int × Int × Int × Int × List Int × Int × Int × Int × Int × List Int × List E11 × List (Int × Int × Int × Int) × Unit ⊕ Int × List (Int × Int × Int × Int) × Int × Int × Int × Int × Int × Int × Int × Int × Int × Int × Int × Int × Int × Int × Int × Int × Int × Int × List Int × Int × Int × Int × Int × List Int × List E11 × List (Int × Int × Int × Int) × Unit ⊕ Int × Int × Int × Int × Int × Int × Int × Int × Int × Int × Int × Int × Int × Int × Int × Int × List Int × List E11 × List (Int × Int × Int × Int) × Unit ⊕ Int × Int × Int × Int × Int × Int × Int × Int × List Int × List E11 × List (Int × Int × Int × Int) × Unit) (
 bif inRange x.2.2.2.1 (List.length x.2.1) then
 bif Int.tmod (List.getD x.2.1 (Int.toNat x.2.2.2.1) (0, 0, 0, 0)).2.2.2 2 == 0 then
 some (Sum.inl (x.1, x.2.1, x.2.2.1, x.2.2.2.1, x.2.2.1, x.2.2.2.2.1, x.2.2.2.2.2.1, x.2.2.2.2.2.2.1, x.2.2.2.2.2.2.2.1, x.2.2.2.2.2.2.2.2.1, x.2.2.2.2.2.2.2.2.2.1, x.2.2.2.2.2.2.2.2.2.2.1, x.2.2.2.2.2.2.2.2.2.2.2.1, x.2.2.2.2.2.2.2.2.2.2.2.2.1, x.2.2.2.2.2.2.2.2.2.2.2.2.2.1, x.2.2.2.2.2.2.2.2.2.2.2.2.2.2.1, x.2.2.2.2.2.2.2.2.2.2.2.2.2.2.2.1, x.2.2.2.2.2.2.2.2.2.2.2.2.2.2.2.2.1, x.2.2.2.2.2.2.2.2.2.2.2.2.2.2.2.2.2.1, x.2.2.2.2.2.2.2.2.2.2.2.2.2.2.2.2.2.2.1, x.2.2.2.2.2.2.2.2.2.2.2.2.2.2.2.2.2.2.2.1, x.2.2.2.2.2.2.2.2.2.2.2.2.2.2.2.2.2.2.2.2.1, IntKind.wrap .i64 (1 + y0.1), IntKind.wrap .i64 (1 + y1.1), 0, 0, x.2.2.2.2.2.2.2.2.2.2.2.2.2.2.2.2.2.2.2.2.2.1, x.2.2.2.2.2.2.2.2.2.2.2.2.2.2.2.2.2.2.2.2.2.2.1, x.2.2.2.2.2.2.2.2.2.2.2.2.2.2.2.2.2.2.2.2.2.2.2.1, ()))
 else
 some (Sum.inl (x.1, x.2.1, x.2.2.1, x.2.2.2.1, List.getD x.2.2.2.2.2.2.2.2.2.2.2.2.2.2.2.2.2.2.2.2.1 (Int.toNat y2.1) 0, x.2.2.2.2.1, x.2.2.2.2.2.1, x.2.2.2.2.2.2.1, x.2.2.2.2.2.2.2.1, x.2.2.2.2.2.2.2.2.1, x.2.2.2.2.2.2.2.2.2.1, x.2.2.2.2.2.2.2.2.2.2.1, x.2.2.2.2.2.2.2.2.2.2.2.1, x.2.2.2.2.2.2.2.2.2.2.2.2.1, x.2.2.2.2.2.2.2.2.2.2.2.2.2.1, x.2.2.2.2.2.2.2.2.2.2.2.2.2.2.1, x.2.2.2.2.2.2.2.2.2.2.2.2.2.2.2.1, x.2.2.2.2.2.2.2.2.2.2.2.2.2.2.2.2.1, x.2.2.2.2.2.2.2.2.2.2.2.2.2.2.2.2.2.1, x.2.2.2.2.2.2.2.2.2.2.2.2.2.2.2.2.2.2.1, x.2.2.2.2.2.2.2.2.2.2.2.2.2.2.2.2.2.2.2.1, x.2.2.2.2.2.2.2.2.2.2.2.2.2.2.2.2.2.2.2.2.1, IntKind.wrap .i64 (1 + y0.1), IntKind.wrap .i64 (1 + y1.1), 0, 0, x.2.2.2.2.2.2.2.2.2.2.2.2.2.2.2.2.2.2.2.2.2.1, x.2.2.2.2.2.2.2.2.2.2.2.2.2.2.2.2.2.2.2.2.2.2.1, x.2.2.2.2.2.2.2.2.2.2.2.2.2.2.2.2.2.2.2.2.2.2.2.1, ()))
 else
 none
 ) fun y3 =>
 Sum.elim (fun y4 =>
 some (Sum.inl (y4.1, y4.2.1, y4.2.2.1, y4.2.2.2.1, y4.2.2.2.2.2.1, y4.2.2.2.2.2.2.1, y4.2.2.2.2.2.2.2.1, y4.2.2.2.2.2.2.2.2.1, y4.2.2.2.2.2.2.2.2.2.1, y4.2.2.2.2.2.2.2.2.2.2.1, y4.2.2.2.2.2.2.2.2.2.2.2.1, y4.2.2.2.2.2.2.2.2.2.2.2.2.1, y4.2.2.2.2.2.2.2.2.2.2.2.2.2.1, y4.2.2.2.2.2.2.2.2.2.2.2.2.2.2.1, y4.2.2.2.2.2.2.2.2.2.2.2.2.2.2.2.1, y4.2.2.2.2.2.2.2.2.2.2.2.2.2.2.2.2.1, y4.2.2.2.2.2.2.2.2.2.2.2.2.2.2.2.2.2.1, y4.2.2.2.2.2.2.2.2.2.2.2.2.2.2.2.2.2.2.1, y4.2.2.2.2.2.2.2.2.2.2.2.2.2.2.2.2.2.2.2.1, y4.2.2.2.2.2.2.2.2.2.2.2.2.2.2.2.2.2.2.2.2.1, y4.2.2.2.2.2.2.2.2.2.2.2.2.2.2.2.2.2.2.2.2.2.1, y4.2.2.2.2.2.2.2.2.2.2.2.2.2.2.2.2.2.2.2.2.2.2.1, y4.2.2.2.2.2.2.2.2.2.2.2.2.2.2.2.2.2.2.2.2.2.2.2.1, Int.tmod y4.2.2.2.2.1 24, IntKind.wrap .i64 (Int.tdiv y4.2.2.2.2.1 24), y4.2.2.2.2.2.2.2.2.2.2.2.2.2.2.2.2.2.2.2.2.2.2.2.2.2.2.1, y4.2.2.2.2.2.2.2.2.2.2.2.2.2.2.2.2.2.2.2.2.2.2.2.2.2.2.2.1, y4.2.2.2.2.2.2.2.2.2.2.2.2.2.2.2.2.2.2.2.2.2.2.2.2.2.2.2.2.1, ()))
 ) (fun z5 =>
 some (z5)
 ) (y3)
 else
 none
 else
 none
 else
 bif IntKind.wrap .i64 (1 + y1.1) == 2 then
 bif inRange x.2.2.2.1 (List.length x.2.1) then
 Option.bind (f39 (List.getD x.2.1 (Int.toNat x.2.2.2.1) (0, 0, 0, 0)).2.2.1 4) fun y6 =>
 bif inRange x.2.2.2.1 (List.length x.2.1) then
 Option.bind (f39 (List.getD x.2.1 (Int.toNat x.2.2.2.1) (0, 0, 0, 0)).2.2.2 4) fun y7 =>
 bif inRange x.2.2.2.1 (List.length x.2.1) then
 bif Int.tmod (List.getD x.2.1 (Int.toNat x.2.2.2.1) (0, 0, 0, 0)).2.2.1 2 == 0 then
 some (Sum.inl (x.1, x.2.1, x.2.2.1, x.2.2.2.1, x.2.2.2.2.1, x.2.2.2.2.2.1, x.2.2.2.2.2.2.1, x.2.2.2.2.2.2.2.1, x.2.2.2.2.2.2.2.2.1, x.2.2.2.2.2.2.2.2.2.1, x.2.2.2.2.2.2.2.2.2.2.1, x.2.2.2.2.2.2.2.2.2.2.2.1, x.2.2.2.2.2.2.2.2.2.2.2.2.1, x.2.2.2.2.2.2.2.2.2.2.2.2.2.1, x.2.2.2.2.2.2.2.2.2.2.2.2.2.2.1, x.2.2.2.2.2.2.2.2.2.2.2.2.2.2.2.1, x.2.2.2.2.2.2.2.2.2.2.2.2.2.2.2.2.1, x.2.2.2.2.2.2.2.2.2.2.2.2.2.2.2.2.2.1, x.2.2.2.2.2.2.2.2.2.2.2.2.2.2.2.2.2.2.1, x.2.2.2.2.2.2.2.2.2.2.2.2.2.2.2.2.2.2.2.1, x.2.2.2.2.2.2.2.2.2.2.2.2.2.2.2.2.2.2.2.2.1, IntKind.wrap .i64 (1 + y0.1), IntKind.wrap .i64 (1 + y1.1), x.1, y7.1, x.2.2.2.2.2.2.2.2.2.2.2.2.2.2.2.2.2.2.2.2.2.1, x.2.2.2.2.2.2.2.2.2.2.2.2.2.2.2.2.2.2.2.2.2.2.1, x.2.2.2.2.2.2.2.2.2.2.2.2.2.2.2.2.2.2.2.2.2.2.2.1, ()))
 else
 some (Sum.inl (x.1, x.2.1, x.2.2.1, x.2.2.2.1, x.2.2.2.2.1, x.2.2.2.2.2.1, x.2.2.2.2.2.2.1, x.2.2.2.2.2.2.2.1, x.2.2.2.2.2.2.2.2.1, x.2.2.2.2.2.2.2.2.2.1, x.2.2.2.2.2.2.2.2.2.2.1, x.2.2.2.2.2.2.2.2.2.2.2.1, x.2.2.2.2.2.2.2.2.2.2.2.2.1, x.2.2.2.2.2.2.2.2.2.2.2.2.2.1, x.2.2.2.2.2.2.2.2.2.2.2.2.2.2.1, x.2.2.2.2.2.2.2.2.2.2.2.2.2.2.2.1, x.2.2.2.2.2.2.2.2.2.2.2.2.2.2.2.2.1, x.2.2.2.2.2.2.2.2.2.2.2.2.2.2.2.2.2.1, x.2.2.2.2.2.2.2.2.2.2.2.2.2.2.2.2.2.2.1, x.2.2.2.2.2.2.2.2.2.2.2.2.2.2.2.2.2.2.2.1, x.2.2.2.2.2.2.2.2.2.2.2.2.2.2.2.2.2.2.2.2.1, IntKind.wrap .i64 (1 + y0.1), IntKind.wrap .i64 (1 + y1.1), y6.1, y7.1, x.2.2.2.2.2.2.2.2.2.2.2.2.2.2.2.2.2.2.2.2.2.1, x.2.2.2.2.2.2.2.2.2.2.2.2.2.2.2.2.2.2.2.2.2.2.1, x.2.2.2.2.2.2.2.2.2.2.2.2.2.2.2.2.2.2.2.2.2.2.2.1, ()))
 else
 none
 else
 none
 else
 none
 else
 bif IntKind.wrap .i64 (1 + y1.1) == 3 then
 bif inRange x.2.2.2.1 (List.length x.2.1) then
 Option.bind (f39 (List.getD x.2.1 (Int.toNat x.2.2.2.1) (0, 0, 0, 0)).1 2) fun y8 =>
 some (Sum.inl (x.1, x.2.1, x.2.2.1, x.2.2.2.1, x.2.2.2.2.1, x.2.2.2.2.2.1, x.2.2.2.2.2.2.1, x.2.2.2.2.2.2.2.1, x.2.2.2.2.2.2.2.2.1, x.2.2.2.2.2.2.2.2.2.1, x.2.2.2.2.2.2.2.2.2.2.1, x.2.2.2.2.2.2.2.2.2.2.2.1, x.2.2.2.2.2.2.2.2.2.2.2.2.1, x.2.2.2.2.2.2.2.2.2.2.2.2.2.1, x.2.2.2.2.2.2.2.2.2.2.2.2.2.2.1, x.2.2.2.2.2.2.2.2.2.2.2.2.2.2.2.1, x.2.2.2.2.2.2.2.2.2.2.2.2.2.2.2.2.1, x.2.2.2.2.2.2.2.2.2.2.2.2.2.2.2.2.2.1, x.2.2.2.2.2.2.2.2.2.2.2.2.2.2.2.2.2.2.1, x.2.2.2.2.2.2.2.2.2.2.2.2.2.2.2.2.2.2.2.1, x.2.2.2.2.2.2.2.2.2.2.2.2.2.2.2.2.2.2.2.2.1, IntKind.wrap .i64 (2 + y8.1), IntKind.wrap .i64 (1 + y1.1), x.1, IntKind.wrap .i64 (IntKind.wrap .i64 (2 + y8.1) - 2), x.2.2.2.2.2.2.2.2.2.2.2.2.2.2.2.2.2.2.2.2.2.1, x.2.2.2.2.2.2.2.2.2.2.2.2.2.2.2.2.2.2.2.2.2.2.1, x.2.2.2.2.2.2.2.2.2.2.2.2.2.2.2.2.2.2.2.2.2.2.2.1, ()))
 else
 none
 else
 bif IntKind.wrap .i64 (1 + y1.1) == 4 then
 bif inRange x.2.2.2.1 (List.length x.2.1) then
 Option.bind (f39 (List.getD x.2.1 (Int.toNat x.2.2.2.1) (0, 0, 0, 0)).2.2.1 3) fun y9 =>
 some (Sum.inl (x.1, x.2.1, x.2.2.1, x.2.2.2.1, x.2.2.2.2.1, x.2.2.2.2.2.1, x.2.2.2.2.2.2.1, x.2.2.2.2.2.2.2.1, x.2.2.2.2.2.2.2.2.1, x.2.2.2.2.2.2.2.2.2.1, x.2.2.2.2.2.2.2.2.2.2.1, x.2.2.2.2.2.2.2.2.2.2.2.1, x.2.2.2.2.2.2.2.2.2.2.2.2.1, x.2.2.2.2.2.2.2.2.2.2.2.2.2.1, x.2.2.2.2.2.2.2.2.2.2.2.2.2.2.1, x.2.2.2.2.2.2.2.2.2.2.2.2.2.2.2.1, x.2.2.2.2.2.2.2.2.2.2.2.2.2.2.2.2.1, x.2.2.2.2.2.2.2.2.2.2.2.2.2.2.2.2.2.1, x.2.2.2.2.2.2.2.2.2.2.2.2.2.2.2.2.2.2.1, x.2.2.2.2.2.2.2.2.2.2.2.2.2.2.2.2.2.2.2.1, x.2.2.2.2.2.2.2.2.2.2.2.2.2.2.2.2.2.2.2.2.1, IntKind.wrap .i64 (1 + y0.1), IntKind.wrap .i64 (1 + y1.1), y9.1, 0, x.2.2.2.2.2.2.2.2.2.2.2.2.2.2.2.2.2.2.2.2.2.1, x.2.2.2.2.2.2.2.2.2.2.2.2.2.2.2.2.2.2.2.2.2.2.1, x.2.2.2.2.2.2.2.2.2.2.2.2.2.2.2.2.2.2.2.2.2.2.2.1, ()))
 else
 none
 else
 some (Sum.inl (x.1, x.2.1, x.2.2.1, x.2.2.2.1, x.2.2.2.2.1, x.2.2.2.2.2.1, x.2.2.2.2.2.2.1, x.2.2.2.2.2.2.2.1, x.2.2.2.2.2.2.2.2.1, x.2.2.2.2.2.2.2.2.2.1, x.2.2.2.2.2.2.2.2.2.2.1, x.2.2.2.2.2.2.2.2.2.2.2.1, x.2.2.2.2.2.2.2.2.2.2.2.2.1, x.2.2.2.2.2.2.2.2.2.2.2.2.2.1, x.2.2.2.2.2.2.2.2.2.2.2.2.2.2.1, x.2.2.2.2.2.2.2.2.2.2.2.2.2.2.2.1, x.2.2.2.2.2.2.2.2.2.2.2.2.2.2.2.2.1, x.2.2.2.2.2.2.2.2.2.2.2.2.2.2.2.2.2.1, x.2.2.2.2.2.2.2.2.2.2.2.2.2.2.2.2.2.2.1, x.2.2.2.2.2.2.2.2.2.2.2.2.2.2.2.2.2.2.2.1, x.2.2.2.2.2.2.2.2.2.2.2.2.2.2.2.2.2.2.2.2.1, IntKind.wrap .i64 (1 + y0.1), IntKind.wrap .i64 (1 + y1.1), 0, 0, x.2.2.2.2.2.2.2.2.2.2.2.2.2.2.2.2.2.2.2.2.2.1, x.2.2.2.2.2.2.2.2.2.2.2.2.2.2.2.2.2.2.2.2.2.2.1, x.2.2.2.2.2.2.2.2.2.2.2.2.2.2.2.2.2.2.2.2.2.2.2.1, ()))
 ) fun y10 =>
 Sum.elim (fun y11 =>
 Option.bind (α := Int × List (Int × Int × Int × Int) × Int × Int × Int × Int × Int × Int × Int × Int × Int × Int × Int × Int × Int × Int × Int × Int × Int × Int × List Int × Int × Int × Int × Int × List Int × List E11 × List (Int × Int × Int × Int) × Unit ⊕ Int × Int × Int × Int × Int × Int × Int × Int × Int × Int × Int × Int × Int × Int × Int × Int × List Int × List E11 × List (Int × Int × Int × Int) × Unit ⊕ Int × Int × Int × Int × Int × Int × Int × Int × List Int × List E11 × List (Int × Int × Int × Int) × Unit) (
 bif y11.2.2.2.2.2.2.2.2.2.2.2.2.2.2.2.2.2.2.2.2.2.1 == 4 then
 bif y11.2.2.2.2.2.2.2.2.2.2.2.2.2.2.2.2.2.2.2.2.2.2.1 != 1 then
 some (Sum.inl (y11.1, y11.2.1, y11.2.2.1, y11.2.2.2.1, y11.2.2.2.2.1, y11.2.2.2.2.2.1, y11.2.2.2.2.2.2.1, y11.2.2.2.2.2.2.2.1, y11.2.2.2.2.2.2.2.2.1, y11.2.2.2.2.2.2.2.2.2.1, y11.2.2.2.2.2.2.2.2.2.2.1, y11.2.2.2.2.2.2.2.2.2.2.2.1, y11.2.2.2.2.2.2.2.2.2.2.2.2.1, y11.2.2.2.2.2.2.2.2.2.2.2.2.2.1, y11.2.2.2.2.2.2.2.2.2.2.2.2.2.2.1, y11.2.2.2.2.2.2.2.2.2.2.2.2.2.2.2.1, y11.2.2.2.2.2.2.2.2.2.2.2.2.2.2.2.2.1, y11.2.2.2.2.2.2.2.2.2.2.2.2.2.2.2.2.2.1, y11.2.2.2.2.2.2.2.2.2.2.2.2.2.2.2.2.2.2.1, y11.2.2.2.2.2.2.2.2.2.2.2.2.2.2.2.2.2.2.2.1, y11.2.2.2.2.2.2.2.2.2.2.2.2.2.2.2.2.2.2.2.2.1, 1, y11.2.2.2.2.2.2.2.2.2.2.2.2.2.2.2.2.2.2.2.2.2.2.1, y11.2.2.2.2.2.2.2.2.2.2.2.2.2.2.2.2.2.2.2.2.2.2.2.1, y11.2.2.2.2.2.2.2.2.2.2.2.2.2.2.2.2.2.2.2.2.2.2.2.2.1, y11.2.2.2.2.2.2.2.2.2.2.2.2.2.2.2.2.2.2.2.2.2.2.2.2.2.1, y11.2.2.2.2.2.2.2.2.2.2.2.2.2.2.2.2.2.2.2.2.2.2.2.2.2.2.1, y11.2.2.2.2.2.2.2.2.2.2.2.2.2.2.2.2.2.2.2.2.2.2.2.2.2.2.2.1, ()))
 else
 some (Sum.inl (y11.1, y11.2.1, y11.2.2.1, y11.2.2.2.1, y11.2.2.2.2.1, y11.2.2.2.2.2.1, y11.2.2.2.2.2.2.1, y11.2.2.2.2.2.2.2.1, y11.2.2.2.2.2.2.2.2.1, y11.2.2.2.2.2.2.2.2.2.1, y11.2.2.2.2.2.2.2.2.2.2.1, y11.2.2.2.2.2.2.2.2.2.2.2.1, y11.2.2.2.2.2.2.2.2.2.2.2.2.1, y11.2.2.2.2.2.2.2.2.2.2.2.2.2.1, y11.2.2.2.2.2.2.2.2.2.2.2.2.2.2.1, y11.2.2.2.2.2.2.2.2.2.2.2.2.2.2.2.1, y11.2.2.2.2.2.2.2.2.2.2.2.2.2.2.2.2.1, y11.2.2.2.2.2.2.2.2.2.2.2.2.2.2.2.2.2.1, y11.2.2.2.2.2.2.2.2.2.2.2.2.2.2.2.2.2.2.1, y11.2.2.2.2.2.2.2.2.2.2.2.2.2.2.2.2.2.2.2.1, y11.2.2.2.2.2.2.2.2.2.2.2.2.2.2.2.2.2.2.2.2.1, y11.2.2.2.2.2.2.2.2.2.2.2.2.2.2.2.2.2.2.2.2.2.1, y11.2.2.2.2.2.2.2.2.2.2.2.2.2.2.2.2.2.2.2.2.2.2.1, y11.2.2.2.2.2.2.2.2.2.2.2.2.2.2.2.2.2.2.2.2.2.2.2.1, y11.2.2.2.2.2.2.2.2.2.2.2.2.2.2.2.2.2.2.2.2.2.2.2.2.1, y11.2.2.2.2.2.2.2.2.2.2.2.2.2.2.2.2.2.2.2.2.2.2.2.2.2.1, y11.2.2.2.2.2.2.2.2.2.2.2.2.2.2.2.2.2.2.2.2.2.2.2.2.2.2.1, y11.2.2.2.2.2.2.2.2.2.2.2.2.2.2.2.2.2.2.2.2.2.2.2.2.2.2.2.1, ()))
 else
 some (Sum.inl (y11.1, y11.2.1, y11.2.2.1, y11.2.2.2.1, y11.2.2.2.2.1, y11.2.2.2.2.2.1, y11.2.2.2.2.2.2.1, y11.2.2.2.2.2.2.2.1, y11.2.2.2.2.2.2.2.2.1, y11.2.2.2.2.2.2.2.2.2.1, y11.2.2.2.2.2.2.2.2.2.2.1, y11.2.2.2.2.2.2.2.2.2.2.2.1, y11.2.2.2.2.2.2.2.2.2.2.2.2.1, y11.2.2.2.2.2.2.2.2.2.2.2.2.2.1, y11.2.2.2.2.2.2.2.2.2.2.2.2.2.2.1, y11.2.2.2.2.2.2.2.2.2.2.2.2.2.2.2.1, y11.2.2.2.2.2.2.2.2.2.2.2.2.2.2.2.2.1, y11.2.2.2.2.2.2.2.2.2.2.2.2.2.2.2.2.2.1, y11.2.2.2.2.2.2.2.2.2.2.2.2.2.2.2.2.2.2.1, y11.2.2.2.2.2.2.2.2.2.2.2.2.2.2.2.2.2.2.2.1, y11.2.2.2.2.2.2.2.2.2.2.2.2.2.2.2.2.2.2.2.2.1, y11.2.2.2.2.2.2.2.2.2.2.2.2.2.2.2.2.2.2.2.2.2.1, y11.2.2.2.2.2.2.2.2.2.2.2.2.2.2.2.2.2.2.2.2.2.2.1, y11.2.2.2.2.2.2.2.2.2.2.2.2.2.2.2.2.2.2.2.2.2.2.2.1, y11.2.2.2.2.2.2.2.2.2.2.2.2.2.2.2.2.2.2.2.2.2.2.2.2.1, y11.2.2.2.2.2.2.2.2.2.2.2.2.2.2.2.2.2.2.2.2.2.2.2.2.2.1, y11.2.2.2.2.2.2.2.2.2.2.2.2.2.2.2.2.2.2.2.2.2.2.2.2.2.2.1, y11.2.2.2.2.2.2.2.2.2.2.2.2.2.2.2.2.2.2.2.2.2.2.2.2.2.2.2.1, ()))
 ) fun y12 =>
 Sum.elim (fun y13 =>
 Option.bind (f21 y13.2.2.2.2.2.2.2.2.2.2.2.2.2.2.2.2.2.2.2.2.2.2.2.2.2.2.2.1 y13.2.2.2.2.2.2.2.2.2.2.2.2.2.2.2.2.2.2.2.2.2.2.1 y13.2.2.2.2.2.2.2.2.2.2.2.2.2.2.2.2.2.2.2.2.2.2.2.1 y13.2.2.2.2.2.2.2.2.2.2.2.2.2.2.2.2.2.2.2.2.2.2.2.2.1) fun y14 =>
 bif decide (y14.1 < 0) then
 bif inRange (Int.tmod (IntKind.wrap .i64 (2 * y13.2.2.2.1)) 40) (List.length y13.2.2.2.2.2.2.2.2.2.2.2.2.2.2.2.2.2.2.2.2.2.2.2.2.2.2.2.1) then
 let s0 : List (Int × Int × Int × Int) := List.set y13.2.2.2.2.2.2.2.2.2.2.2.2.2.2.2.2.2.2.2.2.2.2.2.2.2.2.2.1 (Int.toNat (Int.tmod (IntKind.wrap .i64 (2 * y13.2.2.2.1)) 40)) (y13.2.2.2.2.2.2.2.2.2.2.2.2.2.2.2.2.2.2.2.2.2.1, y13.2.2.2.2.2.2.2.2.2.2.2.2.2.2.2.2.2.2.2.2.2.2.1, y13.2.2.2.2.2.2.2.2.2.2.2.2.2.2.2.2.2.2.2.2.2.2.2.1, y13.2.2.2.2.2.2.2.2.2.2.2.2.2.2.2.2.2.2.2.2.2.2.2.2.1)
 rec (y13.1, y13.2.1, y13.2.2.1, IntKind.wrap .i64 (y13.2.2.2.1 + 1), y13.2.2.2.2.1, y13.2.2.2.2.2.1, y13.2.2.2.2.2.2.1, y13.2.2.2.2.2.2.2.1, y13.2.2.2.2.2.2.2.2.1, y13.2.2.2.2.2.2.2.2.2.1, y13.2.2.2.2.2.2.2.2.2.2.1, y13.2.2.2.2.2.2.2.2.2.2.2.1, y13.2.2.2.2.2.2.2.2.2.2.2.2.1, y13.2.2.2.2.2.2.2.2.2.2.2.2.2.1, y13.2.2.2.2.2.2.2.2.2.2.2.2.2.2.1, y13.2.2.2.2.2.2.2.2.2.2.2.2.2.2.2.1, y13.2.2.2.2.2.2.2.2.2.2.2.2.2.2.2.2.1, y13.2.2.2.2.2.2.2.2.2.2.2.2.2.2.2.2.2.1, y13.2.2.2.2.2.2.2.2.2.2.2.2.2.2.2.2.2.2.1, y13.2.2.2.2.2.2.2.2.2.2.2.2.2.2.2.2.2.2.2.1, y13.2.2.2.2.2.2.2.2.2.2.2.2.2.2.2.2.2.2.2.2.1, y13.2.2.2.2.2.2.2.2.2.2.2.2.2.2.2.2.2.2.2.2.2.2.2.2.2.1, y13.2.2.2.2.2.2.2.2.2.2.2.2.2.2.2.2.2.2.2.2.2.2.2.2.2.2.1, s0, ())
 else
 none
 else
 rec (y13.1, y13.2.1, y13.2.2.1, IntKind.wrap .i64 (y13.2.2.2.1 + 1), y13.2.2.2.2.1, y13.2.2.2.2.2.1, y13.2.2.2.2.2.2.1, y13.2.2.2.2.2.2.2.1, y13.2.2.2.2.2.2.2.2.1, y13.2.2.2.2.2.2.2.2.2.1, y13.2.2.2.2.2.2.2.2.2.2.1, y13.2.2.2.2.2.2.2.2.2.2.2.1, y13.2.2.2.2.2.2.2.2.2.2.2.2.1, y13.2.2.2.2.2.2.2.2.2.2.2.2.2.1, y13.2.2.2.2.2.2.2.2.2.2.2.2.2.2.1, y13.2.2.2.2.2.2.2.2.2.2.2.2.2.2.2.1, y13.2.2.2.2.2.2.2.2.2.2.2.2.2.2.2.2.1, y13.2.2.2.2.2.2.2.2.2.2.2.2.2.2.2.2.2.1, y13.2.2.2.2.2.2.2.2.2.2.2.2.2.2.2.2.2.2.1, y13.2.2.2.2.2.2.2.2.2.2.2.2.2.2.2.2.2.2.2.1, y13.2.2.2.2.2.2.2.2.2.2.2.2.2.2.2.2.2.2.2.2.1, y13.2.2.2.2.2.2.2.2.2.2.2.2.2.2.2.2.2.2.2.2.2.2.2.2.2.1, y13.2.2.2.2.2.2.2.2.2.2.2.2.2.2.2.2.2.2.2.2.2.2.2.2.2.2.1, y13.2.2.2.2.2.2.2.2.2.2.2.2.2.2.2.2.2.2.2.2.2.2.2.2.2.2.2.1, ())
 ) (fun z15 =>
 some (z15)
 ) (y12)
 ) (fun z16 =>
 some (z16)
 ) (y10)
 else
 none
 else
 none
 else
 some (Sum.inl (x.2.2.2.2.1, x.2.2.2.2.2.1, x.2.2.2.2.2.2.1, x.2.2.2.2.2.2.2.1, x.2.2.2.2.2.2.2.2.1, x.2.2.2.2.2.2.2.2.2.1, x.2.2.2.2.2.2.2.2.2.2.1, x.2.2.2.2.2.2.2.2.2.2.2.1, x.2.2.2.2.2.2.2.2.2.2.2.2.1, x.2.2.2.2.2.2.2.2.2.2.2.2.2.1, x.2.2.2.2.2.2.2.2.2.2.2.2.2.2.1, x.2.2.2.2.2.2.2.2.2.2.2.2.2.2.2.1, x.2.2.2.2.2.2.2.2.2.2.2.2.2.2.2.2.1, x.2.2.2.2.2.2.2.2.2.2.2.2.2.2.2.2.2.1, x.2.2.2.2.2.2.2.2.2.2.2.2.2.2.2.2.2.2.1, x.2.2.2.2.2.2.2.2.2.2.2.2.2.2.2.2.2.2.2.1, x.2.2.2.2.2.2.2.2.2.2.2.2.2.2.2.2.2.2.2.2.2.1, x.2.2.2.2.2.2.2.2.2.2.2.2.2.2.2.2.2.2.2.2.2.2.1, x.2.2.2.2.2.2.2.2.2.2.2.2.2.2.2.2.2.2.2.2.2.2.2.1, ()))
 else
 some (Sum.inl (x.2.2.2.2.1, x.2.2.2.2.2.1, x.2.2.2.2.2.2.1, x.2.2.2.2.2.2.2.1, x.2.2.2.2.2.2.2.2.1, x.2.2.2.2.2.2.2.2.2.1, x.2.2.2.2.2.2.2.2.2.2.1, x.2.2.2.2.2.2.2.2.2.2.2.1, x.2.2.2.2.2.2.2.2.2.2.2.2.1, x.2.2.2.2.2.2.2.2.2.2.2.2.2.1, x.2.2.2.2.2.2.2.2.2.2.2.2.2.2.1, x.2.2.2.2.2.2.2.2.2.2.2.2.2.2.2.1, x.2.2.2.2.2.2.2.2.2.2.2.2.2.2.2.2.1, x.2.2.2.2.2.2.2.2.2.2.2.2.2.2.2.2.2.1, x.2.2.2.2.2.2.2.2.2.2.2.2.2.2.2.2.2.2.1, x.2.2.2.2.2.2.2.2.2.2.2.2.2.2.2.2.2.2.2.1, x.2.2.2.2.2.2.2.2.2.2.2.2.2.2.2.2.2.2.2.2.2.1, x.2.2.2.2.2.2.2.2.2.2.2.2.2.2.2.2.2.2.2.2.2.2.1, x.2.2.2.2.2.2.2.2.2.2.2.2.2.2.2.2.2.2.2.2.2.2.2.1, ()))
 ) (100000000000000000000) (x)
def f23.L2 (x : Int × Int × List (Int × Int × Int × Int) × Int × Int × Int × Int × Int × Int × Int × Int × Int × Int × Int × Int × Int × Int × Int × Int × Int × Int × List Int × List Int × List E11 × List (Int × Int × Int × Int) × Unit) : Option (Int × Int × Int × Int × Int × Int × Int × Int × List Int × List E11 × List (Int × Int × Int × Int) × Unit) :=
 it (X := Int × Int × List (Int × Int × Int × Int) × Int × Int × Int × Int × Int × Int × Int × Int × Int × Int × Int × Int × Int × Int × Int × Int × Int × Int × List Int × List Int × List E11 × List (Int × Int × Int × Int) × Unit) (fun rec x =>
 bif decide (x.2.2.2.2.1 < 384) then
 bif inRange x.2.2.2.2.1 (List.length x.2.2.2.2.2.2.2.2.2.2.2.2.2.2.2.2.2.2.2.2.2.2.1) then
 Option.bind (f18 (IntKind.wrap .i64 (List.getD x.2.2.2.2.2.2.2.2.2.2.2.2.2.2.2.2.2.2.2.2.2.2.1 (Int.toNat x.2.2.2.2.1) 0))) fun y0 =>
 bif y0.1 then
 bif decide (List.length x.2.2.2.2.2.2.2.2.2.2.2.2.2.2.2.2.2.2.2.2.2.1 + 1 ≤ limit 8) then
 rec (x.1, x.2.1, x.2.2.1, x.2.2.2.1, IntKind.wrap .i64 (x.2.2.2.2.1 + 1), x.2.2.2.2.2.1, x.2.2.2.2.2.2.1, x.2.2.2.2.2.2.2.1, x.2.2.2.2.2.2.2.2.1, x.2.2.2.2.2.2.2.2.2.1, x.2.2.2.2.2.2.2.2.2.2.1, x.2.2.2.2.2.2.2.2.2.2.2.1, x.2.2.2.2.2.2.2.2.2.2.2.2.1, x.2.2.2.2.2.2.2.2.2.2.2.2.2.1, x.2.2.2.2.2.2.2.2.2.2.2.2.2.2.1, x.2.2.2.2.2.2.2.2.2.2.2.2.2.2.2.1, x.2.2.2.2.2.2.2.2.2.2.2.2.2.2.2.2.1, x.2.2.2.2.2.2.2.2.2.2.2.2.2.2.2.2.2.1, x.2.2.2.2.2.2.2.2.2.2.2.2.2.2.2.2.2.2.1, x.2.2.2.2.2.2.2.2.2.2.2.2.2.2.2.2.2.2.2.1, x.2.2.2.2.2.2.2.2.2.2.2.2.2.2.2.2.2.2.2.2.1, x.2.2.2.2.2.2.2.2.2.2.2.2.2.2.2.2.2.2.2.2.2.1 ++ [x.2.2.2.2.1], x.2.2.2.2.2.2.2.2.2.2.2.2.2.2.2.2.2.2.2.2.2.2.1, x.2.2.2.2.2.2.2.2.2.2.2.2.2.2.2.2.2.2.2.2.2.2.2.1, x.2.2.2.2.2.2.2.2.2.2.2.2.2.2.2.2.2.2.2.2.2.2.2.2.1, ())
 else
 none
 else
 rec (x.1, x.2.1, x.2.2.1, x.2.2.2.1, IntKind.wrap .i64 (x.2.2.2.2.1 + 1), x.2.2.2.2.2.1, x.2.2.2.2.2.2.1, x.2.2.2.2.2.2.2.1, x.2.2.2.2.2.2.2.2.1, x.2.2.2.2.2.2.2.2.2.1, x.2.2.2.2.2.2.2.2.2.2.1, x.2.2.2.2.2.2.2.2.2.2.2.1, x.2.2.2.2.2.2.2.2.2.2.2.2.1, x.2.2.2.2.2.2.2.2.2.2.2.2.2.1, x.2.2.2.2.2.2.2.2.2.2.2.2.2.2.1, x.2.2.2.2.2.2.2.2.2.2.2.2.2.2.2.1, x.2.2.2.2.2.2.2.2.2.2.2.2.2.2.2.2.1, x.2.2.2.2.2.2.2.2.2.2.2.2.2.2.2.2.2.1, x.2.2.2.2.2.2.2.2.2.2.2.2.2.2.2.2.2.2.1, x.2.2.2.2.2.2.2.2.2.2.2.2.2.2.2.2.2.2.2.1, x.2.2.2.2.2.2.2.2.2.2.2.2.2.2.2.2.2.2.2.2.1, x.2.2.2.2.2.2.2.2.2.2.2.2.2.2.2.2.2.2.2.2.2.1, x.2.2.2.2.2.2.2.2.2.2.2.2.2.2.2.2.2.2.2.2.2.2.1, x.2.2.2.2.2.2.2.2.2.2.2.2.2.2.2.2.2.2.2.2.2.2.2.1, x.2.2.2.2.2.2.2.2.2.2.2.2.2.2.2.2.2.2.2.2.2.2.2.2.1, ())
 else
 none
 else
 Option.bind (f39 x.1 4) fun y1 =>
 Option.bind (f39 x.2.1 (↑(List.length x.2.2.2.2.2.2.2.2.2.2.2.2.2.2.2.2.2.2.2.2.2.1) : Int)) fun y2 =>
 bif inRange y2.1 (List.length x.2.2.2.2.2.2.2.2.2.2.2.2.2.2.2.2.2.2.2.2.2.1) then
 Option.bind (α := Int × Int × List (Int × Int × Int × Int) × Int × Int × Int × Int × Int × Int × Int × Int × Int × Int × Int × Int × Int × Int × Int × Int × Int × Int × List Int × List Int × List E11 × List (Int × Int × Int × Int) × Unit ⊕ Int × Int × Int × Int × Int × Int × Int × Int × List Int × List E11 × List (Int × Int × Int × Int) × Unit) (
 bif Int.tmod x.2.1 3 == 0 then
 Option.bind (f30 x.2.2.2.2.2.2.2.2.2.2.2.2.2.2.2.2.2.2.2.2.2.2.1 5) fun y3 =>
 bif decide (y3.1 ≥ 0) then
 Option.bind (f30 x.2.2.2.2.2.2.2.2.2.2.2.2.2.2.2.2.2.2.2.2.2.2.1 5) fun y4 =>
 some (Sum.inl (y1.1, x.2.1, x.2.2.1, x.2.2.2.1, y4.1, x.2.2.2.2.2.1, x.2.2.2.2.2.2.1, x.2.2.2.2.2.2.2.1, x.2.2.2.2.2.2.2.2.1, x.2.2.2.2.2.2.2.2.2.1, x.2.2.2.2.2.2.2.2.2.2.1, x.2.2.2.2.2.2.2.2.2.2.2.1, x.2.2.2.2.2.2.2.2.2.2.2.2.1, x.2.2.2.2.2.2.2.2.2.2.2.2.2.1, x.2.2.2.2.2.2.2.2.2.2.2.2.2.2.1, x.2.2.2.2.2.2.2.2.2.2.2.2.2.2.2.1, x.2.2.2.2.2.2.2.2.2.2.2.2.2.2.2.2.1, x.2.2.2.2.2.2.2.2.2.2.2.2.2.2.2.2.2.1, x.2.2.2.2.2.2.2.2.2.2.2.2.2.2.2.2.2.2.1, x.2.2.2.2.2.2.2.2.2.2.2.2.2.2.2.2.2.2.2.1, x.2.2.2.2.2.2.2.2.2.2.2.2.2.2.2.2.2.2.2.2.1, x.2.2.2.2.2.2.2.2.2.2.2.2.2.2.2.2.2.2.2.2.2.1, x.2.2.2.2.2.2.2.2.2.2.2.2.2.2.2.2.2.2.2.2.2.2.1, x.2.2.2.2.2.2.2.2.2.2.2.2.2.2.2.2.2.2.2.2.2.2.2.1, x.2.2.2.2.2.2.2.2.2.2.2.2.2.2.2.2.2.2.2.2.2.2.2.2.1, ()))
 else
 some (Sum.inl (y1.1, x.2.1, x.2.2.1, x.2.2.2.1, List.getD x.2.2.2.2.2.2.2.2.2.2.2.2.2.2.2.2.2.2.2.2.2.1 (Int.toNat y2.1) 0, x.2.2.2.2.2.1, x.2.2.2.2.2.2.1, x.2.2.2.2.2.2.2.1, x.2.2.2.2.2.2.2.2.1, x.2.2.2.2.2.2.2.2.2.1, x.2.2.2.2.2.2.2.2.2.2.1, x.2.2.2.2.2.2.2.2.2.2.2.1, x.2.2.2.2.2.2.2.2.2.2.2.2.1, x.2.2.2.2.2.2.2.2.2.2.2.2.2.1, x.2.2.2.2.2.2.2.2.2.2.2.2.2.2.1, x.2.2.2.2.2.2.2.2.2.2.2.2.2.2.2.1, x.2.2.2.2.2.2.2.2.2.2.2.2.2.2.2.2.1, x.2.2.2.2.2.2.2.2.2.2.2.2.2.2.2.2.2.1, x.2.2.2.2.2.2.2.2.2.2.2.2.2.2.2.2.2.2.1, x.2.2.2.2.2.2.2.2.2.2.2.2.2.2.2.2.2.2.2.1, x.2.2.2.2.2.2.2.2.2.2.2.2.2.2.2.2.2.2.2.2.1, x.2.2.2.2.2.2.2.2.2.2.2.2.2.2.2.2.2.2.2.2.2.1, x.2.2.2.2.2.2.2.2.2.2.2.2.2.2.2.2.2.2.2.2.2.2.1, x.2.2.2.2.2.2.2.2.2.2.2.2.2.2.2.2.2.2.2.2.2.2.2.1, x.2.2.2.2.2.2.2.2.2.2.2.2.2.2.2.2.2.2.2.2.2.2.2.2.1, ()))
 else
 some (Sum.inl (y1.1, x.2.1, x.2.2.1, x.2.2.2.1, List.getD x.2.2.2.2.2.2.2.2.2.2.2.2.2.2.2.2.2.2.2.2.2.1 (Int.toNat y2.1) 0, x.2.2.2.2.2.1, x.2.2.2.2.2.2.1, x.2.2.2.2.2.2.2.1, x.2.2.2.2.2.2.2.2.1, x.2.2.2.2.2.2.2.2.2.1, x.2.2.2.2.2.2.2.2.2.2.1, x.2.2.2.2.2.2.2.2.2.2.2.1, x.2.2.2.2.2.2.2.2.2.2.2.2.1, x.2.2.2.2.2.2.2.2.2.2.2.2.2.1, x.2.2.2.2.2.2.2.2.2.2.2.2.2.2.1, x.2.2.2.2.2.2.2.2.2.2.2.2.2.2.2.1, x.2.2.2.2.2.2.2.2.2.2.2.2.2.2.2.2.1, x.2.2.2.2.2.2.2.2.2.2.2.2.2.2.2.2.2.1, x.2.2.2.2.2.2.2.2.2.2.2.2.2.2.2.2.2.2.1, x.2.2.2.2.2.2.2.2.2.2.2.2.2.2.2.2.2.2.2.1, x.2.2.2.2.2.2.2.2.2.2.2.2.2.2.2.2.2.2.2.2.1, x.2.2.2.2.2.2.2.2.2.2.2.2.2.2.2.2.2.2.2.2.2.1, x.2.2.2.2.2.2.2.2.2.2.2.2.2.2.2.2.2.2.2.2.2.2.1, x.2.2.2.2.2.2.2.2.2.2.2.2.2.2.2.2.2.2.2.2.2.2.2.1, x.2.2.2.2.2.2.2.2.2.2.2.2.2.2.2.2.2.2.2.2.2.2.2.2.1, ()))
 ) fun y5 =>
 Sum.elim (fun y6 =>
 Option.bind (f25 1) fun y7 =>
 Option.bind (f39 y6.2.1 y7.2.2.2.2.2.2.1) fun y8 =>
 Option.bind (f39 y6.2.1 32) fun y9 =>
 bif inRange y9.1 (List.length y6.2.2.2.2.2.2.2.2.2.2.2.2.2.2.2.2.2.2.2.2.2.2.2.1) then
 Option.bind (f39 y6.2.2.2.1 1000) fun y10 =>
 bif inRange y6.1 4 then
 Option.bind (α := Int × Int × Int × Int × Int × Int × Int × Int × Int × Int × Int × Int × Int × Int × Int × Int × List Int × List E11 × List (Int × Int × Int × Int) × Unit ⊕ Int × Int × Int × Int × Int × Int × Int × Int × List Int × List E11 × List (Int × Int × Int × Int) × Unit) (
 let s0 : List E11 := List.set y6.2.2.2.2.2.2.2.2.2.2.2.2.2.2.2.2.2.2.2.2.2.2.2.1 (Int.toNat y9.1) (y7.1, y7.2.1, y6.1, Int.tmod y6.2.2.2.2.1 24, IntKind.wrap .i64 (Int.tdiv y6.2.2.2.2.1 24), IntKind.wrap .i64 (1 + y8.1), y7.2.2.2.2.2.2.1, y7.2.2.2.2.2.2.2.1, y7.2.2.2.2.2.2.2.2.1, y7.2.2.2.2.2.2.2.2.2.1, y7.2.2.2.2.2.2.2.2.2.2.1)
 f23.L1 ((y6.1, y6.2.2.1, y6.2.2.2.2.1, 0, y6.2.2.2.2.2.1, y6.2.2.2.2.2.2.1, y6.2.2.2.2.2.2.2.1, y6.2.2.2.2.2.2.2.2.1, y6.2.2.2.2.2.2.2.2.2.1, y6.2.2.2.2.2.2.2.2.2.2.1, y6.2.2.2.2.2.2.2.2.2.2.2.1, y6.2.2.2.2.2.2.2.2.2.2.2.2.1, y6.2.2.2.2.2.2.2.2.2.2.2.2.2.1, y6.2.2.2.2.2.2.2.2.2.2.2.2.2.2.1, y6.2.2.2.2.2.2.2.2.2.2.2.2.2.2.2.1, y6.2.2.2.2.2.2.2.2.2.2.2.2.2.2.2.2.1, if Int.toNat y6.1 = 0 / 1 then y10.1 else y6.2.2.2.2.2.2.2.2.2.2.2.2.2.2.2.2.2.1, if Int.toNat y6.1 = (0 + 1) / 1 then y10.1 else y6.2.2.2.2.2.2.2.2.2.2.2.2.2.2.2.2.2.2.1, if Int.toNat y6.1 = (0 + 1 + 1) / 1 then y10.1 else y6.2.2.2.2.2.2.2.2.2.2.2.2.2.2.2.2.2.2.2.1, if Int.toNat y6.1 = (0 + 1 + 1 + 1) / 1 then y10.1 else y6.2.2.2.2.2.2.2.2.2.2.2.2.2.2.2.2.2.2.2.2.1, y6.2.2.2.2.2.2.2.2.2.2.2.2.2.2.2.2.2.2.2.2.2.1, y6.2.2.2.2.2.2.2.2.2.2.2.2.2.2.2.2.2.2.2.2.2.2.1, s0, y6.2.2.2.2.2.2.2.2.2.2.2.2.2.2.2.2.2.2.2.2.2.2.2.2.1, ()))
 ) fun y11 =>
 Sum.elim (fun y12 =>
 some ((y12.2.2.2.2.2.2.2.2.1, y12.2.2.2.2.2.2.2.2.2.1, y12.2.2.2.2.2.2.2.2.2.2.1, y12.2.2.2.2.2.2.2.2.2.2.2.1, y12.2.2.2.2.2.2.2.2.2.2.2.2.1, y12.2.2.2.2.2.2.2.2.2.2.2.2.2.1, y12.2.2.2.2.2.2.2.2.2.2.2.2.2.2.1, y12.2.2.2.2.2.2.2.2.2.2.2.2.2.2.2.1, y12.2.2.2.2.2.2.2.2.2.2.2.2.2.2.2.2.1, y12.2.2.2.2.2.2.2.2.2.2.2.2.2.2.2.2.2.1, y12.2.2.2.2.2.2.2.2.2.2.2.2.2.2.2.2.2.2.1, ()))
 ) (fun z13 =>
 some (z13)
 ) (y11)
 else
 none
 else
 none
 ) (fun z14 =>
 some (z14)
 ) (y5)
 else
 none
 ) (100000000000000000000) (x)
def f23 (a0 : Int) (a1 : Int) (a2 : Int) (a3 : Int) (a4 : List (Int × Int × Int × Int)) (a5 : Int) : Option (Int × Int × Int × Int × Int × Int × Int × Int × List Int × List E11 × List (Int × Int × Int × Int) × Unit) :=
 Option.bind (f39 a1 3) fun y0 =>
 Option.bind (f40 a0 (IntKind.wrap .i64 (1 + y0.1))) fun y1 =>
 f23.L2 ((a2, a3, a4, a5, 0, 0, 0, 0, 0, 0, 0, 0, 0, a0, 0, IntKind.wrap .i64 (1 + y0.1), 0, 0, 0, 0, 0, [], y1.1, List.replicate 32 (0, 0, 0, 0, 0, 0, 0, 0, 0, 0, 0), List.replicate 40 (0, 0, 0, 0), ()))
def f23.ins : Shape := ⟨[(0, .c (.int .i64)), (1, .c (.int .i64)), (2, .c (.int .i64)), (3, .c (.int .i64)), (4, .c (.row (.prod (.int .i64) (.prod (.int .i64) (.prod (.int .i64) (.int .i64)))))), (5, .c (.int .i64))], []⟩
def f23.outs : List Shape := [⟨[(0, .agg [.int .i64, .int .i64, .int .i64, .int .i64, .own 0, .own 1, .own 2, .int .i64, .int .i64, .int .i64, .int .i64])], [(0, .arr (.int .u8)), (1, .arr (.prod (.int .i64) (.prod (.int .i64) (.prod (.int .i64) (.prod (.int .i64) (.prod (.int .i64) (.prod (.int .i64) (.prod (.int .i64) (.prod (.int .i64) (.prod (.int .i64) (.prod (.int .i64) (.int .i64)))))))))))), (2, .arr (.prod (.int .i64) (.prod (.int .i64) (.prod (.int .i64) (.int .i64)))))]⟩]
def f23.S : FnSpec := ⟨f23.ins, f23.outs, [], fun x => f23 x.1 x.2.1 x.2.2.1 x.2.2.2.1 x.2.2.2.2.1 x.2.2.2.2.2.1⟩
def f23.E (fuel : Nat) : Env := ⟨tis, [(39, f39.S), (18, f18.S), (25, f25.S), (40, f40.S), (30, f30.S), (21, f21.S)], [], [(14, ⟨[(2, .c (.int .i64)), (3, .c (.int .i64)), (4, .c (.row (.prod (.int .i64) (.prod (.int .i64) (.prod (.int .i64) (.int .i64)))))), (5, .c (.int .i64)), (12, .c (.ptr 0 0)), (13, .c (.ptr 1 0)), (14, .c (.own 2)), (16, .c (.int .i64))], [(0, .box [.int .i64, .int .i64, .int .i64, .int .i64, .nils, .nils, .nils, .int .i64, .int .i64, .int .i64, .int .i64]), (1, .box [.int .i64, .int .i64, .int .i64, .int .i64, .own 3, .own 4, .own 5, .int .i64, .int .i64, .int .i64, .int .i64]), (2, .arr (.int .i64)), (3, .arr (.int .u8)), (4, .arr (.prod (.int .i64) (.prod (.int .i64) (.prod (.int .i64) (.prod (.int .i64) (.prod (.int .i64) (.prod (.int .i64) (.prod (.int .i64) (.prod (.int .i64) (.prod (.int .i64) (.prod (.int .i64) (.int .i64)))))))))))), (5, .arr (.prod (.int .i64) (.prod (.int .i64) (.prod (.int .i64) (.int .i64)))))]⟩), (27, ⟨[(2, .c (.int .i64)), (4, .c (.row (.prod (.int .i64) (.prod (.int .i64) (.prod (.int .i64) (.int .i64)))))), (12, .c (.ptr 0 0)), (13, .c (.ptr 1 0)), (14, .c (.own 2)), (16, .c (.int .i64)), (18, .c (.int .i64)), (19, .c (.ptr 3 0)), (20, .c (.int .i64))], [(0, .box [.int .i64, .int .i64, .int .i64, .int .i64, .nils, .nils, .nils, .int .i64, .int .i64, .int .i64, .int .i64]), (1, .box [.int .i64, .int .i64, .int .i64, .int .i64, .own 4, .own 5, .own 6, .int .i64, .int .i64, .int .i64, .int .i64]), (2, .arr (.int .i64)), (3, .box [.int .i64, .int .i64, .int .i64, .int .i64]), (4, .arr (.int .u8)), (5, .arr (.prod (.int .i64) (.prod (.int .i64) (.prod (.int .i64) (.prod (.int .i64) (.prod (.int .i64) (.prod (.int .i64) (.prod (.int .i64) (.prod (.int .i64) (.prod (.int .i64) (.prod (.int .i64) (.int .i64)))))))))))), (6, .arr (.prod (.int .i64) (.prod (.int .i64) (.prod (.int .i64) (.int .i64)))))]⟩), (37, ⟨[(2, .c (.int .i64)), (4, .c (.row (.prod (.int .i64) (.prod (.int .i64) (.prod (.int .i64) (.int .i64)))))), (12, .c (.ptr 0 0)), (13, .c (.ptr 1 0)), (14, .c (.own 2)), (16, .c (.int .i64)), (18, .c (.int .i64)), (19, .c (.ptr 3 0))], [(0, .box [.int .i64, .int .i64, .int .i64, .int .i64, .nils, .nils, .nils, .int .i64, .int .i64, .int .i64, .int .i64]), (1, .box [.int .i64, .int .i64, .int .i64, .int .i64, .own 4, .own 5, .own 6, .int .i64, .int .i64, .int .i64, .int .i64]), (2, .arr (.int .i64)), (3, .box [.int .i64, .int .i64, .int .i64, .int .i64]), (4, .arr (.int .u8)), (5, .arr (.prod (.int .i64) (.prod (.int .i64) (.prod (.int .i64) (.prod (.int .i64) (.prod (.int .i64) (.prod (.int .i64) (.prod (.int .i64) (.prod (.int .i64) (.prod (.int .i64) (.prod (.int .i64) (.int .i64)))))))))))), (6, .arr (.prod (.int .i64) (.prod (.int .i64) (.prod (.int .i64) (.int .i64)))))]⟩), (39, ⟨[(2, .c (.int .i64)), (4, .c (.row (.prod (.int .i64) (.prod (.int .i64) (.prod (.int .i64) (.int .i64)))))), (12, .c (.ptr 0 0)), (13, .c (.ptr 1 0)), (14, .c (.own 2)), (16, .c (.int .i64)), (18, .c (.int .i64)), (19, .c (.ptr 3 0))], [(0, .box [.int .i64, .int .i64, .int .i64, .int .i64, .nils, .nils, .nils, .int .i64, .int .i64, .int .i64, .int .i64]), (1, .box [.int .i64, .int .i64, .int .i64, .int .i64, .own 4, .own 5, .own 6, .int .i64, .int .i64, .int .i64, .int .i64]), (2, .arr (.int .i64)), (3, .box [.int .i64, .int .i64, .int .i64, .int .i64]), (4, .arr (.int .u8)), (5, .arr (.prod (.int .i64) (.prod (.int .i64) (.prod (.int .i64) (.prod (.int .i64) (.prod (.int .i64) (.prod (.int .i64) (.prod (.int .i64) (.prod (.int .i64) (.prod (.int .i64) (.prod (.int .i64) (.int .i64)))))))))))), (6, .arr (.prod (.int .i64) (.prod (.int .i64) (.prod (.int .i64) (.int .i64)))))]⟩), (41, ⟨[(12, .c (.ptr 0 0)), (13, .c (.ptr 1 0))], [(0, .box [.int .i64, .int .i64, .int .i64, .int .i64, .nils, .nils, .nils, .int .i64, .int .i64, .int .i64, .int .i64]), (1, .box [.int .i64, .int .i64, .int .i64, .int .i64, .own 2, .own 3, .own 4, .int .i64, .int .i64, .int .i64, .int .i64]), (2, .arr (.int .u8)), (3, .arr (.prod (.int .i64) (.prod (.int .i64) (.prod (.int .i64) (.prod (.int .i64) (.prod (.int .i64) (.prod (.int .i64) (.prod (.int .i64) (.prod (.int .i64) (.prod (.int .i64) (.prod (.int .i64) (.int .i64)))))))))))), (4, .arr (.prod (.int .i64) (.prod (.int .i64) (.prod (.int .i64) (.int .i64)))))]⟩)], [(6, ⟨[(2, .c (.int .i64)), (3, .c (.int .i64)), (4, .c (.row (.prod (.int .i64) (.prod (.int .i64) (.prod (.int .i64) (.int .i64)))))), (5, .c (.int .i64)), (12, .c (.ptr 0 0)), (13, .c (.ptr 1 0)), (14, .c (.own 2)), (15, .c (.int .i64))], [(0, .box [.int .i64, .int .i64, .int .i64, .int .i64, .nils, .nils, .nils, .int .i64, .int .i64, .int .i64, .int .i64]), (1, .box [.int .i64, .int .i64, .int .i64, .int .i64, .own 3, .own 4, .own 5, .int .i64, .int .i64, .int .i64, .int .i64]), (2, .arr (.int .i64)), (3, .arr (.int .u8)), (4, .arr (.prod (.int .i64) (.prod (.int .i64) (.prod (.int .i64) (.prod (.int .i64) (.prod (.int .i64) (.prod (.int .i64) (.prod (.int .i64) (.prod (.int .i64) (.prod (.int .i64) (.prod (.int .i64) (.int .i64)))))))))))), (5, .arr (.prod (.int .i64) (.prod (.int .i64) (.prod (.int .i64) (.int .i64)))))]⟩), (19, ⟨[(2, .c (.int .i64)), (4, .c (.row (.prod (.int .i64) (.prod (.int .i64) (.prod (.int .i64) (.int .i64)))))), (12, .c (.ptr 0 0)), (13, .c (.ptr 1 0)), (14, .c (.own 2)), (16, .c (.int .i64)), (18, .c (.int .i64))], [(0, .box [.int .i64, .int .i64, .int .i64, .int .i64, .nils, .nils, .nils, .int .i64, .int .i64, .int .i64, .int .i64]), (1, .box [.int .i64, .int .i64, .int .i64, .int .i64, .own 3, .own 4, .own 5, .int .i64, .int .i64, .int .i64, .int .i64]), (2, .arr (.int .i64)), (3, .arr (.int .u8)), (4, .arr (.prod (.int .i64) (.prod (.int .i64) (.prod (.int .i64) (.prod (.int .i64) (.prod (.int .i64) (.prod (.int .i64) (.prod (.int .i64) (.prod (.int .i64) (.prod (.int .i64) (.prod (.int .i64) (.int .i64)))))))))))), (5, .arr (.prod (.int .i64) (.prod (.int .i64) (.prod (.int .i64) (.int .i64)))))]⟩)], [], 0, [], fuel⟩
theorem f23.run : ∀ x, runFn (f23.E 100000000000000000000) Go.Proofs.Try.f23 ((Go.Proofs.Try.f23.body).getD .skip) f23.S x = f23.S.f x := by intro x; kernel_rfl
theorem f23.sound : Sound Go.Proofs.Try.prog 23 f23.S := sound_of_run (fun _ => f23.E 100000000000000000000) (by kernel_rfl) (by kernel_rfl) (by kernel_rfl) orders (fun _ => ⟨tis_ok, EqsOk.nil _, (FnsOk.cons f39.sound (FnsOk.cons f18.sound (FnsOk.cons f25.sound (FnsOk.cons f40.sound (FnsOk.cons f30.sound (FnsOk.cons f21.sound FnsOk.nil))))))⟩) (fun _ => rfl) (by kernel_rfl) (by kernel_rfl) (fun x r h => (f23.run x).trans h)
/-! f31: adit/aditlaw8.within -/
def f31 (a0 : Int) (a1 : Int) : Option (Int × Unit) :=
 bif decide (a1 = 0) then
 none
 else
 Option.bind (α := Int × Unit ⊕ Int × Unit) (
 bif decide (Int.tmod a0 a1 < 0) then
 some (Sum.inl (IntKind.wrap .i64 (Int.tmod a0 a1 + a1), ()))
 else
 some (Sum.inl (Int.tmod a0 a1, ()))
 ) fun y0 =>
 Sum.elim (fun y1 =>
 some ((y1.1, ()))
 ) (fun z2 =>
 some (z2)
 ) (y0)
def f31.ins : Shape := ⟨[(0, .c (.int .i64)), (1, .c (.int .i64))], []⟩
def f31.outs : List Shape := [⟨[(0, .c (.int .i64))], []⟩]
def f31.S : FnSpec := ⟨f31.ins, f31.outs, [], fun x => f31 x.1 x.2.1⟩
def f31.E (fuel : Nat) : Env := ⟨tis, [], [], [(5, ⟨[(5, .c (.int .i64))], []⟩)], [], [], 0, [], fuel⟩
theorem f31.run : ∀ x, runFn (f31.E 100000000000000000000) Go.Proofs.Try.f31 ((Go.Proofs.Try.f31.body).getD .skip) f31.S x = f31.S.f x := by intro x; kernel_rfl
theorem f31.sound : Sound Go.Proofs.Try.prog 31 f31.S := sound_of_run (fun _ => f31.E 100000000000000000000) (by kernel_rfl) (by kernel_rfl) (by kernel_rfl) orders (fun _ => ⟨tis_ok, EqsOk.nil _, FnsOk.nil⟩) (fun _ => rfl) (by kernel_rfl) (by kernel_rfl) (fun x r h => (f31.run x).trans h)
/-! f17: adit/aditref5.At -/
def f17.L1 (x : List E11 × Int × Int × Int × Unit) : Option (Int × Unit) :=
 it (X := List E11 × Int × Int × Int × Unit) (fun rec x =>
 bif decide (x.2.2.2.1 < (↑(List.length x.1) : Int)) then
 bif inRange x.2.2.2.1 (List.length x.1) then
 bif (List.getD x.1 (Int.toNat x.2.2.2.1) (0, 0, 0, 0, 0, 0, 0, 0, 0, 0, 0)).1 != 0 then
 bif inRange x.2.2.2.1 (List.length x.1) then
 bif (List.getD x.1 (Int.toNat x.2.2.2.1) (0, 0, 0, 0, 0, 0, 0, 0, 0, 0, 0)).2.2.2.1 == x.2.1 then
 bif inRange x.2.2.2.1 (List.length x.1) then
 bif (List.getD x.1 (Int.toNat x.2.2.2.1) (0, 0, 0, 0, 0, 0, 0, 0, 0, 0, 0)).2.2.2.2.1 == x.2.2.1 then
 some ((x.2.2.2.1, ()))
 else
 rec (x.1, x.2.1, x.2.2.1, IntKind.wrap .i64 (x.2.2.2.1 + 1), ())
 else
 none
 else
 rec (x.1, x.2.1, x.2.2.1, IntKind.wrap .i64 (x.2.2.2.1 + 1), ())
 else
 none
 else
 rec (x.1, x.2.1, x.2.2.1, IntKind.wrap .i64 (x.2.2.2.1 + 1), ())
 else
 none
 else
 some ((-1, ()))
 ) (100000000000000000000) (x)
def f17 (a0 : List E11) (a1 : Int) (a2 : Int) : Option (Int × Unit) :=
 f17.L1 ((a0, a1, a2, 0, ()))
def f17.ins : Shape := ⟨[(0, .c (.row (.prod (.int .i64) (.prod (.int .i64) (.prod (.int .i64) (.prod (.int .i64) (.prod (.int .i64) (.prod (.int .i64) (.prod (.int .i64) (.prod (.int .i64) (.prod (.int .i64) (.prod (.int .i64) (.int .i64))))))))))))), (1, .c (.int .i64)), (2, .c (.int .i64))], []⟩
def f17.outs : List Shape := [⟨[(0, .c (.int .i64))], []⟩]
def f17.S : FnSpec := ⟨f17.ins, f17.outs, [], fun x => f17 x.1 x.2.1 x.2.2.1⟩
def f17.E (fuel : Nat) : Env := ⟨tis, [], [], [], [(3, ⟨[(0, .c (.row (.prod (.int .i64) (.prod (.int .i64) (.prod (.int .i64) (.prod (.int .i64) (.prod (.int .i64) (.prod (.int .i64) (.prod (.int .i64) (.prod (.int .i64) (.prod (.int .i64) (.prod (.int .i64) (.int .i64))))))))))))), (1, .c (.int .i64)), (2, .c (.int .i64)), (7, .c (.int .i64))], []⟩)], [], 0, [], fuel⟩
theorem f17.run : ∀ x, runFn (f17.E 100000000000000000000) Go.Proofs.Try.f17 ((Go.Proofs.Try.f17.body).getD .skip) f17.S x = f17.S.f x := by intro x; kernel_rfl
theorem f17.sound : Sound Go.Proofs.Try.prog 17 f17.S := sound_of_run (fun _ => f17.E 100000000000000000000) (by kernel_rfl) (by kernel_rfl) (by kernel_rfl) orders (fun _ => ⟨tis_ok, EqsOk.nil _, FnsOk.nil⟩) (fun _ => rfl) (by kernel_rfl) (by kernel_rfl) (fun x r h => (f17.run x).trans h)
/-! f20: adit/aditref5.Hero -/
def f20.L1 (x : List E11 × Int × Int × Unit) : Option (Int × Unit) :=
 it (X := List E11 × Int × Int × Unit) (fun rec x =>
 bif decide (x.2.2.1 < (↑(List.length x.1) : Int)) then
 bif inRange x.2.2.1 (List.length x.1) then
 bif (List.getD x.1 (Int.toNat x.2.2.1) (0, 0, 0, 0, 0, 0, 0, 0, 0, 0, 0)).1 == 1 then
 bif inRange x.2.2.1 (List.length x.1) then
 bif (List.getD x.1 (Int.toNat x.2.2.1) (0, 0, 0, 0, 0, 0, 0, 0, 0, 0, 0)).2.2.1 == x.2.1 then
 some ((x.2.2.1, ()))
 else
 rec (x.1, x.2.1, IntKind.wrap .i64 (x.2.2.1 + 1), ())
 else
 none
 else
 rec (x.1, x.2.1, IntKind.wrap .i64 (x.2.2.1 + 1), ())
 else
 none
 else
 some ((-1, ()))
 ) (100000000000000000000) (x)
def f20 (a0 : List E11) (a1 : Int) : Option (Int × Unit) :=
 f20.L1 ((a0, a1, 0, ()))
def f20.ins : Shape := ⟨[(0, .c (.row (.prod (.int .i64) (.prod (.int .i64) (.prod (.int .i64) (.prod (.int .i64) (.prod (.int .i64) (.prod (.int .i64) (.prod (.int .i64) (.prod (.int .i64) (.prod (.int .i64) (.prod (.int .i64) (.int .i64))))))))))))), (1, .c (.int .i64))], []⟩
def f20.outs : List Shape := [⟨[(0, .c (.int .i64))], []⟩]
def f20.S : FnSpec := ⟨f20.ins, f20.outs, [], fun x => f20 x.1 x.2.1⟩
def f20.E (fuel : Nat) : Env := ⟨tis, [], [], [], [(3, ⟨[(0, .c (.row (.prod (.int .i64) (.prod (.int .i64) (.prod (.int .i64) (.prod (.int .i64) (.prod (.int .i64) (.prod (.int .i64) (.prod (.int .i64) (.prod (.int .i64) (.prod (.int .i64) (.prod (.int .i64) (.int .i64))))))))))))), (1, .c (.int .i64)), (5, .c (.int .i64))], []⟩)], [], 0, [], fuel⟩
theorem f20.run : ∀ x, runFn (f20.E 100000000000000000000) Go.Proofs.Try.f20 ((Go.Proofs.Try.f20.body).getD .skip) f20.S x = f20.S.f x := by intro x; kernel_rfl
theorem f20.sound : Sound Go.Proofs.Try.prog 20 f20.S := sound_of_run (fun _ => f20.E 100000000000000000000) (by kernel_rfl) (by kernel_rfl) (by kernel_rfl) orders (fun _ => ⟨tis_ok, EqsOk.nil _, FnsOk.nil⟩) (fun _ => rfl) (by kernel_rfl) (by kernel_rfl) (fun x r h => (f20.run x).trans h)
/-! f26: adit/aditref5.Spawn -/
def f26.L1 (x : List E11 × Int × Int × Int × Int × Int × Int × Int × Int × Int × Int × Int × Int × Unit) : Option (Unit ⊕ Int × Int × List E11 × Unit) :=
 it (X := List E11 × Int × Int × Int × Int × Int × Int × Int × Int × Int × Int × Int × Int × Unit) (fun rec x =>
 bif decide (x.2.1 < (↑(List.length x.1) : Int)) then
 bif decide (x.2.1 < 32) then
 bif inRange x.2.1 (List.length x.1) then
 bif (List.getD x.1 (Int.toNat x.2.1) (0, 0, 0, 0, 0, 0, 0, 0, 0, 0, 0)).1 == 0 then
 bif decide (0 + List.length x.1 ≤ limit 88) then
 bif inRange x.2.1 (List.length x.1) then
 bif inRange x.2.1 (List.length x.1) then
 let s0 : List E11 := List.set x.1 (Int.toNat x.2.1) (x.2.2.1, Int.tmod (IntKind.wrap .i64 ((List.getD x.1 (Int.toNat x.2.1) (0, 0, 0, 0, 0, 0, 0, 0, 0, 0, 0)).2.1 + 1)) 256, x.2.2.2.2.1, x.2.2.2.2.2.1, x.2.2.2.2.2.2.1, x.2.2.2.2.2.2.2.1, x.2.2.2.2.2.2.2.2.1, x.2.2.2.2.2.2.2.2.2.1, x.2.2.2.2.2.2.2.2.2.2.1, x.2.2.2.2.2.2.2.2.2.2.2.1, x.2.2.2.2.2.2.2.2.2.2.2.2.1)
 some (Sum.inr (x.2.1, 0, s0, ()))
 else
 none
 else
 none
 else
 none
 else
 rec (x.1, IntKind.wrap .i64 (x.2.1 + 1), x.2.2.1, x.2.2.2.1, x.2.2.2.2.1, x.2.2.2.2.2.1, x.2.2.2.2.2.2.1, x.2.2.2.2.2.2.2.1, x.2.2.2.2.2.2.2.2.1, x.2.2.2.2.2.2.2.2.2.1, x.2.2.2.2.2.2.2.2.2.2.1, x.2.2.2.2.2.2.2.2.2.2.2.1, x.2.2.2.2.2.2.2.2.2.2.2.2.1, ())
 else
 none
 else
 some (Sum.inl ())
 else
 some (Sum.inl ())
 ) (100000000000000000000) (x)
def f26 (a0 : List E11) (a1 : Int) (a2 : Int) (a3 : Int) (a4 : Int) (a5 : Int) (a6 : Int) (a7 : Int) (a8 : Int) (a9 : Int) (a10 : Int) (a11 : Int) : Option (Int × Int × List E11 × Unit) :=
 bif decide (a1 < 1) then
 some ((0, 3, [], ()))
 else
 bif decide (a1 > 4) then
 some ((0, 3, [], ()))
 else
 Option.bind (α := Unit ⊕ Int × Int × List E11 × Unit) (
 f26.L1 ((a0, 0, a1, a2, a3, a4, a5, a6, a7, a8, a9, a10, a11, ()))
 ) fun y0 =>
 Sum.elim (fun y1 =>
 some ((0, 5, [], ()))
 ) (fun z2 =>
 some (z2)
 ) (y0)
def f26.ins : Shape := ⟨[(0, .c (.row (.prod (.int .i64) (.prod (.int .i64) (.prod (.int .i64) (.prod (.int .i64) (.prod (.int .i64) (.prod (.int .i64) (.prod (.int .i64) (.prod (.int .i64) (.prod (.int .i64) (.prod (.int .i64) (.int .i64))))))))))))), (1, .agg [.int .i64, .int .i64, .int .i64, .int .i64, .int .i64, .int .i64, .int .i64, .int .i64, .int .i64, .int .i64, .int .i64])], []⟩
def f26.outs : List Shape := [⟨[(0, .c (.own 0)), (1, .c (.int .i64)), (2, .c (.int .i64))], [(0, .arr (.prod (.int .i64) (.prod (.int .i64) (.prod (.int .i64) (.prod (.int .i64) (.prod (.int .i64) (.prod (.int .i64) (.prod (.int .i64) (.prod (.int .i64) (.prod (.int .i64) (.prod (.int .i64) (.int .i64))))))))))))]⟩]
def f26.S : FnSpec := ⟨f26.ins, f26.outs, [], fun x => f26 x.1 x.2.1 x.2.2.1 x.2.2.2.1 x.2.2.2.2.1 x.2.2.2.2.2.1 x.2.2.2.2.2.2.1 x.2.2.2.2.2.2.2.1 x.2.2.2.2.2.2.2.2.1 x.2.2.2.2.2.2.2.2.2.1 x.2.2.2.2.2.2.2.2.2.2.1 x.2.2.2.2.2.2.2.2.2.2.2.1⟩
def f26.E (fuel : Nat) : Env := ⟨tis, [], [], [(12, ⟨[], []⟩)], [(5, ⟨[(0, .c (.row (.prod (.int .i64) (.prod (.int .i64) (.prod (.int .i64) (.prod (.int .i64) (.prod (.int .i64) (.prod (.int .i64) (.prod (.int .i64) (.prod (.int .i64) (.prod (.int .i64) (.prod (.int .i64) (.int .i64))))))))))))), (3, .c (.ptr 0 0)), (7, .c (.int .i64))], [(0, .box [.int .i64, .int .i64, .int .i64, .int .i64, .int .i64, .int .i64, .int .i64, .int .i64, .int .i64, .int .i64, .int .i64])]⟩)], [], 0, [], fuel⟩
theorem f26.run : ∀ x, runFn (f26.E 100000000000000000000) Go.Proofs.Try.f26 ((Go.Proofs.Try.f26.body).getD .skip) f26.S x = f26.S.f x := by intro x; kernel_rfl
theorem f26.sound : Sound Go.Proofs.Try.prog 26 f26.S := sound_of_run (fun _ => f26.E 100000000000000000000) (by kernel_rfl) (by kernel_rfl) (by kernel_rfl) orders (fun _ => ⟨tis_ok, EqsOk.nil _, FnsOk.nil⟩) (fun _ => rfl) (by kernel_rfl) (by kernel_rfl) (fun x r h => (f26.run x).trans h)
/-! f9: adit/aditlaw8.Crowd -/
def f9.L1 (x : List Int × Int × Int × Int × Int × Int × Int × Int × Int × Int × Int × Int × Int × Int × Int × Int × Int × Int × Int × List Int × List E11 × List (Int × Int × Int × Int) × Unit) : Option (List Int × Int × Int × Int × Int × Int × Int × Int × Int × Int × Int × Int × Int × Int × Int × Int × Int × Int × Int × List Int × List E11 × List (Int × Int × Int × Int) × Unit ⊕ Int × Int × Int × Int × Int × Int × Int × Int × Int × Int × Int × Int × Int × Int × Int × Int × List Int × List E11 × List (Int × Int × Int × Int) × Unit ⊕ Int × Int × Int × Int × Int × Int × Int × Int × List Int × List E11 × List (Int × Int × Int × Int) × Unit) :=
 it (X := List Int × Int × Int × Int × Int × Int × Int × Int × Int × Int × Int × Int × Int × Int × Int × Int × Int × Int × Int × List Int × List E11 × List (Int × Int × Int × Int) × Unit) (fun rec x =>
 Option.bind (α := List Int × Int × Int × Int × Int × Int × Int × Int × Int × Int × Int × Int × Int × Int × Int × Int × Int × Int × Int × List Int × List E11 × List (Int × Int × Int × Int) × Unit ⊕ List Int × Int × Int × Int × Int × Int × Int × Int × Int × Int × Int × Int × Int × Int × Int × Int × Int × Int × Int × List Int × List E11 × List (Int × Int × Int × Int) × Unit ⊕ Int × Int × Int × Int × Int × Int × Int × Int × Int × Int × Int × Int × Int × Int × Int × Int × List Int × List E11 × List (Int × Int × Int × Int) × Unit ⊕ Int × Int × Int × Int × Int × Int × Int × Int × List Int × List E11 × List (Int × Int × Int × Int) × Unit) (
 bif decide (x.2.1 < 384) then
 bif inRange x.2.1 (List.length x.2.2.2.2.2.2.2.2.2.2.2.2.2.2.2.2.2.2.2.1) then
 Option.bind (f18 (IntKind.wrap .i64 (List.getD x.2.2.2.2.2.2.2.2.2.2.2.2.2.2.2.2.2.2.2.1 (Int.toNat x.2.1) 0))) fun y0 =>
 bif !y0.1 then
 some (Sum.inl (x.1, x.2.1, x.2.2.1, x.2.2.2.1, x.2.2.2.2.1, x.2.2.2.2.2.1, x.2.2.2.2.2.2.1, x.2.2.2.2.2.2.2.1, x.2.2.2.2.2.2.2.2.1, x.2.2.2.2.2.2.2.2.2.1, x.2.2.2.2.2.2.2.2.2.2.1, x.2.2.2.2.2.2.2.2.2.2.2.1, x.2.2.2.2.2.2.2.2.2.2.2.2.1, x.2.2.2.2.2.2.2.2.2.2.2.2.2.1, x.2.2.2.2.2.2.2.2.2.2.2.2.2.2.1, x.2.2.2.2.2.2.2.2.2.2.2.2.2.2.2.1, x.2.2.2.2.2.2.2.2.2.2.2.2.2.2.2.2.1, x.2.2.2.2.2.2.2.2.2.2.2.2.2.2.2.2.2.1, x.2.2.2.2.2.2.2.2.2.2.2.2.2.2.2.2.2.2.1, x.2.2.2.2.2.2.2.2.2.2.2.2.2.2.2.2.2.2.2.1, x.2.2.2.2.2.2.2.2.2.2.2.2.2.2.2.2.2.2.2.2.1, x.2.2.2.2.2.2.2.2.2.2.2.2.2.2.2.2.2.2.2.2.2.1, ()))
 else
 Option.bind (f17 x.2.2.2.2.2.2.2.2.2.2.2.2.2.2.2.2.2.2.2.2.1 (Int.tmod x.2.1 24) (IntKind.wrap .i64 (Int.tdiv x.2.1 24))) fun y1 =>
 bif decide (y1.1 ≥ 0) then
 some (Sum.inl (x.1, x.2.1, x.2.2.1, x.2.2.2.1, x.2.2.2.2.1, x.2.2.2.2.2.1, x.2.2.2.2.2.2.1, x.2.2.2.2.2.2.2.1, x.2.2.2.2.2.2.2.2.1, x.2.2.2.2.2.2.2.2.2.1, x.2.2.2.2.2.2.2.2.2.2.1, x.2.2.2.2.2.2.2.2.2.2.2.1, x.2.2.2.2.2.2.2.2.2.2.2.2.1, x.2.2.2.2.2.2.2.2.2.2.2.2.2.1, x.2.2.2.2.2.2.2.2.2.2.2.2.2.2.1, x.2.2.2.2.2.2.2.2.2.2.2.2.2.2.2.1, x.2.2.2.2.2.2.2.2.2.2.2.2.2.2.2.2.1, x.2.2.2.2.2.2.2.2.2.2.2.2.2.2.2.2.2.1, x.2.2.2.2.2.2.2.2.2.2.2.2.2.2.2.2.2.2.1, x.2.2.2.2.2.2.2.2.2.2.2.2.2.2.2.2.2.2.2.1, x.2.2.2.2.2.2.2.2.2.2.2.2.2.2.2.2.2.2.2.2.1, x.2.2.2.2.2.2.2.2.2.2.2.2.2.2.2.2.2.2.2.2.2.1, ()))
 else
 some (Sum.inr (Sum.inl (x.1, x.2.1, x.2.2.1, x.2.2.2.1, x.2.2.2.2.1, x.2.2.2.2.2.1, x.2.2.2.2.2.2.1, x.2.2.2.2.2.2.2.1, x.2.2.2.2.2.2.2.2.1, x.2.2.2.2.2.2.2.2.2.1, x.2.2.2.2.2.2.2.2.2.2.1, x.2.2.2.2.2.2.2.2.2.2.2.1, x.2.2.2.2.2.2.2.2.2.2.2.2.1, x.2.2.2.2.2.2.2.2.2.2.2.2.2.1, x.2.2.2.2.2.2.2.2.2.2.2.2.2.2.1, x.2.2.2.2.2.2.2.2.2.2.2.2.2.2.2.1, x.2.2.2.2.2.2.2.2.2.2.2.2.2.2.2.2.1, x.2.2.2.2.2.2.2.2.2.2.2.2.2.2.2.2.2.1, x.2.2.2.2.2.2.2.2.2.2.2.2.2.2.2.2.2.2.1, x.2.2.2.2.2.2.2.2.2.2.2.2.2.2.2.2.2.2.2.1, x.2.2.2.2.2.2.2.2.2.2.2.2.2.2.2.2.2.2.2.2.1, x.2.2.2.2.2.2.2.2.2.2.2.2.2.2.2.2.2.2.2.2.2.1, ())))
 else
 none
 else
 some (Sum.inr (Sum.inl (x.1, x.2.1, x.2.2.1, x.2.2.2.1, x.2.2.2.2.1, x.2.2.2.2.2.1, x.2.2.2.2.2.2.1, x.2.2.2.2.2.2.2.1, x.2.2.2.2.2.2.2.2.1, x.2.2.2.2.2.2.2.2.2.1, x.2.2.2.2.2.2.2.2.2.2.1, x.2.2.2.2.2.2.2.2.2.2.2.1, x.2.2.2.2.2.2.2.2.2.2.2.2.1, x.2.2.2.2.2.2.2.2.2.2.2.2.2.1, x.2.2.2.2.2.2.2.2.2.2.2.2.2.2.1, x.2.2.2.2.2.2.2.2.2.2.2.2.2.2.2.1, x.2.2.2.2.2.2.2.2.2.2.2.2.2.2.2.2.1, x.2.2.2.2.2.2.2.2.2.2.2.2.2.2.2.2.2.1, x.2.2.2.2.2.2.2.2.2.2.2.2.2.2.2.2.2.2.1, x.2.2.2.2.2.2.2.2.2.2.2.2.2.2.2.2.2.2.2.1, x.2.2.2.2.2.2.2.2.2.2.2.2.2.2.2.2.2.2.2.2.1, x.2.2.2.2.2.2.2.2.2.2.2.2.2.2.2.2.2.2.2.2.2.1, ())))
 ) fun y2 =>
 Sum.elim (fun y3 =>
 rec (y3.1, IntKind.wrap .i64 (y3.2.1 + 1), y3.2.2.1, y3.2.2.2.1, y3.2.2.2.2.1, y3.2.2.2.2.2.1, y3.2.2.2.2.2.2.1, y3.2.2.2.2.2.2.2.1, y3.2.2.2.2.2.2.2.2.1, y3.2.2.2.2.2.2.2.2.2.1, y3.2.2.2.2.2.2.2.2.2.2.1, y3.2.2.2.2.2.2.2.2.2.2.2.1, y3.2.2.2.2.2.2.2.2.2.2.2.2.1, y3.2.2.2.2.2.2.2.2.2.2.2.2.2.1, y3.2.2.2.2.2.2.2.2.2.2.2.2.2.2.1, y3.2.2.2.2.2.2.2.2.2.2.2.2.2.2.2.1, y3.2.2.2.2.2.2.2.2.2.2.2.2.2.2.2.2.1, y3.2.2.2.2.2.2.2.2.2.2.2.2.2.2.2.2.2.1, y3.2.2.2.2.2.2.2.2.2.2.2.2.2.2.2.2.2.2.1, y3.2.2.2.2.2.2.2.2.2.2.2.2.2.2.2.2.2.2.2.1, y3.2.2.2.2.2.2.2.2.2.2.2.2.2.2.2.2.2.2.2.2.1, y3.2.2.2.2.2.2.2.2.2.2.2.2.2.2.2.2.2.2.2.2.2.1, ())
 ) (fun z4 =>
 some (z4)
 ) (y2)
 ) (100000000000000000000) (x)
def f9.L2 (x : List Int × Int × Int × Int × Int × Int × Int × Int × Int × Int × Int × Int × Int × Int × Int × Int × Int × Int × Int × List Int × List E11 × List (Int × Int × Int × Int) × Unit) : Option (Int × Int × Int × Int × Int × Int × Int × Int × Int × Int × Int × Int × Int × Int × Int × Int × List Int × List E11 × List (Int × Int × Int × Int) × Unit ⊕ Int × Int × Int × Int × Int × Int × Int × Int × List Int × List E11 × List (Int × Int × Int × Int) × Unit) :=
 it (X := List Int × Int × Int × Int × Int × Int × Int × Int × Int × Int × Int × Int × Int × Int × Int × Int × Int × Int × Int × List Int × List E11 × List (Int × Int × Int × Int) × Unit) (fun rec x =>
 bif decide (x.2.2.1 < (↑(List.length x.1) : Int)) then
 bif decide (x.2.2.1 < 12) then
 Option.bind (α := List Int × Int × Int × Int × Int × Int × Int × Int × Int × Int × Int × Int × Int × Int × Int × Int × Int × Int × Int × List Int × List E11 × List (Int × Int × Int × Int) × Unit ⊕ Int × Int × Int × Int × Int × Int × Int × Int × Int × Int × Int × Int × Int × Int × Int × Int × List Int × List E11 × List (Int × Int × Int × Int) × Unit ⊕ Int × Int × Int × Int × Int × Int × Int × Int × List Int × List E11 × List (Int × Int × Int × Int) × Unit) (
 f9.L1 ((x.1, x.2.1, x.2.2.1, x.2.2.2.1, x.2.2.2.2.1, x.2.2.2.2.2.1, x.2.2.2.2.2.2.1, x.2.2.2.2.2.2.2.1, x.2.2.2.2.2.2.2.2.1, x.2.2.2.2.2.2.2.2.2.1, x.2.2.2.2.2.2.2.2.2.2.1, x.2.2.2.2.2.2.2.2.2.2.2.1, x.2.2.2.2.2.2.2.2.2.2.2.2.1, x.2.2.2.2.2.2.2.2.2.2.2.2.2.1, x.2.2.2.2.2.2.2.2.2.2.2.2.2.2.1, x.2.2.2.2.2.2.2.2.2.2.2.2.2.2.2.1, x.2.2.2.2.2.2.2.2.2.2.2.2.2.2.2.2.1, x.2.2.2.2.2.2.2.2.2.2.2.2.2.2.2.2.2.1, x.2.2.2.2.2.2.2.2.2.2.2.2.2.2.2.2.2.2.1, x.2.2.2.2.2.2.2.2.2.2.2.2.2.2.2.2.2.2.2.1, x.2.2.2.2.2.2.2.2.2.2.2.2.2.2.2.2.2.2.2.2.1, x.2.2.2.2.2.2.2.2.2.2.2.2.2.2.2.2.2.2.2.2.2.1, ()))
 ) fun y0 =>
 Sum.elim (fun y1 =>
 bif decide (y1.2.1 ≥ 384) then
 some (Sum.inl (y1.2.2.2.1, y1.2.2.2.2.1, y1.2.2.2.2.2.1, y1.2.2.2.2.2.2.1, y1.2.2.2.2.2.2.2.1, y1.2.2.2.2.2.2.2.2.1, y1.2.2.2.2.2.2.2.2.2.1, y1.2.2.2.2.2.2.2.2.2.2.1, y1.2.2.2.2.2.2.2.2.2.2.2.1, y1.2.2.2.2.2.2.2.2.2.2.2.2.1, y1.2.2.2.2.2.2.2.2.2.2.2.2.2.1, y1.2.2.2.2.2.2.2.2.2.2.2.2.2.2.1, y1.2.2.2.2.2.2.2.2.2.2.2.2.2.2.2.1, y1.2.2.2.2.2.2.2.2.2.2.2.2.2.2.2.2.1, y1.2.2.2.2.2.2.2.2.2.2.2.2.2.2.2.2.2.1, y1.2.2.2.2.2.2.2.2.2.2.2.2.2.2.2.2.2.2.1, y1.2.2.2.2.2.2.2.2.2.2.2.2.2.2.2.2.2.2.2.1, y1.2.2.2.2.2.2.2.2.2.2.2.2.2.2.2.2.2.2.2.2.1, y1.2.2.2.2.2.2.2.2.2.2.2.2.2.2.2.2.2.2.2.2.2.1, ()))
 else
 bif inRange y1.2.2.1 (List.length y1.1) then
 Option.bind (f31 (List.getD y1.1 (Int.toNat y1.2.2.1) 0) 4) fun y2 =>
 Option.bind (f25 (IntKind.wrap .i64 (1 + y2.1))) fun y3 =>
 Option.bind (α := List Int × Int × Int × Int × Int × Int × Int × Int × Int × Int × Int × Int × Int × Int × Int × Int × Int × Int × Int × Int × Int × Int × Int × Int × Int × Int × Int × Int × Int × Int × List Int × List E11 × List (Int × Int × Int × Int) × Unit ⊕ Int × Int × Int × Int × Int × Int × Int × Int × Int × Int × Int × Int × Int × Int × Int × Int × List Int × List E11 × List (Int × Int × Int × Int) × Unit ⊕ Int × Int × Int × Int × Int × Int × Int × Int × List Int × List E11 × List (Int × Int × Int × Int) × Unit) (
 bif y3.1 == 1 then
 bif inRange y1.2.2.1 (List.length y1.1) then
 Option.bind (f31 (IntKind.wrap .i64 (Int.tdiv (List.getD y1.1 (Int.toNat y1.2.2.1) 0) 4)) 3) fun y4 =>
 Option.bind (f20 y1.2.2.2.2.2.2.2.2.2.2.2.2.2.2.2.2.2.2.2.2.1 (IntKind.wrap .i64 (1 + y4.1))) fun y5 =>
 bif decide (y5.1 ≥ 0) then
 Option.bind (rec (y1.1, y1.2.1, IntKind.wrap .i64 (y1.2.2.1 + 1), y1.2.2.2.1, y1.2.2.2.2.1, y1.2.2.2.2.2.1, y1.2.2.2.2.2.2.1, y1.2.2.2.2.2.2.2.1, y1.2.2.2.2.2.2.2.2.1, y1.2.2.2.2.2.2.2.2.2.1, y1.2.2.2.2.2.2.2.2.2.2.1, y1.2.2.2.2.2.2.2.2.2.2.2.1, y1.2.2.2.2.2.2.2.2.2.2.2.2.1, y1.2.2.2.2.2.2.2.2.2.2.2.2.2.1, y1.2.2.2.2.2.2.2.2.2.2.2.2.2.2.1, y1.2.2.2.2.2.2.2.2.2.2.2.2.2.2.2.1, y1.2.2.2.2.2.2.2.2.2.2.2.2.2.2.2.2.1, y1.2.2.2.2.2.2.2.2.2.2.2.2.2.2.2.2.2.1, y1.2.2.2.2.2.2.2.2.2.2.2.2.2.2.2.2.2.2.1, y1.2.2.2.2.2.2.2.2.2.2.2.2.2.2.2.2.2.2.2.1, y1.2.2.2.2.2.2.2.2.2.2.2.2.2.2.2.2.2.2.2.2.1, y1.2.2.2.2.2.2.2.2.2.2.2.2.2.2.2.2.2.2.2.2.2.1, ())) fun y6 =>
 some (Sum.inr y6)
 else
 some (Sum.inl (y1.1, y1.2.1, y1.2.2.1, y1.2.2.2.1, y1.2.2.2.2.1, y1.2.2.2.2.2.1, y1.2.2.2.2.2.2.1, y1.2.2.2.2.2.2.2.1, y1.2.2.2.2.2.2.2.2.1, y1.2.2.2.2.2.2.2.2.2.1, y1.2.2.2.2.2.2.2.2.2.2.1, y1.2.2.2.2.2.2.2.2.2.2.2.1, y1.2.2.2.2.2.2.2.2.2.2.2.2.1, y1.2.2.2.2.2.2.2.2.2.2.2.2.2.1, y1.2.2.2.2.2.2.2.2.2.2.2.2.2.2.1, y1.2.2.2.2.2.2.2.2.2.2.2.2.2.2.2.1, y1.2.2.2.2.2.2.2.2.2.2.2.2.2.2.2.2.1, y1.2.2.2.2.2.2.2.2.2.2.2.2.2.2.2.2.2.1, y1.2.2.2.2.2.2.2.2.2.2.2.2.2.2.2.2.2.2.1, y3.1, y3.2.1, IntKind.wrap .i64 (1 + y4.1), y3.2.2.2.1, y3.2.2.2.2.1, y3.2.2.2.2.2.1, y3.2.2.2.2.2.2.1, y3.2.2.2.2.2.2.2.1, y3.2.2.2.2.2.2.2.2.1, y3.2.2.2.2.2.2.2.2.2.1, y3.2.2.2.2.2.2.2.2.2.2.1, y1.2.2.2.2.2.2.2.2.2.2.2.2.2.2.2.2.2.2.2.1, y1.2.2.2.2.2.2.2.2.2.2.2.2.2.2.2.2.2.2.2.2.1, y1.2.2.2.2.2.2.2.2.2.2.2.2.2.2.2.2.2.2.2.2.2.1, ()))
 else
 none
 else
 some (Sum.inl (y1.1, y1.2.1, y1.2.2.1, y1.2.2.2.1, y1.2.2.2.2.1, y1.2.2.2.2.2.1, y1.2.2.2.2.2.2.1, y1.2.2.2.2.2.2.2.1, y1.2.2.2.2.2.2.2.2.1, y1.2.2.2.2.2.2.2.2.2.1, y1.2.2.2.2.2.2.2.2.2.2.1, y1.2.2.2.2.2.2.2.2.2.2.2.1, y1.2.2.2.2.2.2.2.2.2.2.2.2.1, y1.2.2.2.2.2.2.2.2.2.2.2.2.2.1, y1.2.2.2.2.2.2.2.2.2.2.2.2.2.2.1, y1.2.2.2.2.2.2.2.2.2.2.2.2.2.2.2.1, y1.2.2.2.2.2.2.2.2.2.2.2.2.2.2.2.2.1, y1.2.2.2.2.2.2.2.2.2.2.2.2.2.2.2.2.2.1, y1.2.2.2.2.2.2.2.2.2.2.2.2.2.2.2.2.2.2.1, y3.1, y3.2.1, y3.2.2.1, y3.2.2.2.1, y3.2.2.2.2.1, y3.2.2.2.2.2.1, y3.2.2.2.2.2.2.1, y3.2.2.2.2.2.2.2.1, y3.2.2.2.2.2.2.2.2.1, y3.2.2.2.2.2.2.2.2.2.1, y3.2.2.2.2.2.2.2.2.2.2.1, y1.2.2.2.2.2.2.2.2.2.2.2.2.2.2.2.2.2.2.2.1, y1.2.2.2.2.2.2.2.2.2.2.2.2.2.2.2.2.2.2.2.2.1, y1.2.2.2.2.2.2.2.2.2.2.2.2.2.2.2.2.2.2.2.2.2.1, ()))
 ) fun y7 =>
 Sum.elim (fun y8 =>
 bif inRange y8.2.2.1 (List.length y8.1) then
 Option.bind (f31 (IntKind.wrap .i64 (Int.tdiv (List.getD y8.1 (Int.toNat y8.2.2.1) 0) 7)) y8.2.2.2.2.2.2.2.2.2.2.2.2.2.2.2.2.2.2.2.2.2.2.2.2.2.1) fun y9 =>
 bif inRange y8.2.2.1 (List.length y8.1) then
 Option.bind (f31 (IntKind.wrap .i64 (Int.tdiv (List.getD y8.1 (Int.toNat y8.2.2.1) 0) 5)) 10) fun y10 =>
 bif inRange y8.2.2.1 (List.length y8.1) then
 Option.bind (f31 (IntKind.wrap .i64 (Int.tdiv (List.getD y8.1 (Int.toNat y8.2.2.1) 0) 11)) 10) fun y11 =>
 Option.bind (f26 y8.2.2.2.2.2.2.2.2.2.2.2.2.2.2.2.2.2.2.2.2.2.2.2.2.2.2.2.2.2.2.2.1 y8.2.2.2.2.2.2.2.2.2.2.2.2.2.2.2.2.2.2.2.1 y8.2.2.2.2.2.2.2.2.2.2.2.2.2.2.2.2.2.2.2.2.1 y8.2.2.2.2.2.2.2.2.2.2.2.2.2.2.2.2.2.2.2.2.2.1 (Int.tmod y8.2.1 24) (IntKind.wrap .i64 (Int.tdiv y8.2.1 24)) (IntKind.wrap .i64 (1 + y9.1)) y8.2.2.2.2.2.2.2.2.2.2.2.2.2.2.2.2.2.2.2.2.2.2.2.2.2.1 y8.2.2.2.2.2.2.2.2.2.2.2.2.2.2.2.2.2.2.2.2.2.2.2.2.2.2.1 y8.2.2.2.2.2.2.2.2.2.2.2.2.2.2.2.2.2.2.2.2.2.2.2.2.2.2.2.1 y10.1 y11.1) fun y12 =>
 Option.bind (α := List Int × Int × Int × Int × Int × Int × Int × Int × Int × Int × Int × Int × Int × Int × Int × Int × Int × Int × Int × List Int × List E11 × List (Int × Int × Int × Int) × Unit ⊕ Int × Int × Int × Int × Int × Int × Int × Int × Int × Int × Int × Int × Int × Int × Int × Int × List Int × List E11 × List (Int × Int × Int × Int) × Unit ⊕ Int × Int × Int × Int × Int × Int × Int × Int × List Int × List E11 × List (Int × Int × Int × Int) × Unit) (
 bif y12.2.1 == 0 then
 some (Sum.inl (y8.1, y8.2.1, y8.2.2.1, y8.2.2.2.1, y8.2.2.2.2.1, y8.2.2.2.2.2.1, y8.2.2.2.2.2.2.1, y8.2.2.2.2.2.2.2.1, y8.2.2.2.2.2.2.2.2.1, y8.2.2.2.2.2.2.2.2.2.1, y8.2.2.2.2.2.2.2.2.2.2.1, y8.2.2.2.2.2.2.2.2.2.2.2.1, y8.2.2.2.2.2.2.2.2.2.2.2.2.1, y8.2.2.2.2.2.2.2.2.2.2.2.2.2.1, y8.2.2.2.2.2.2.2.2.2.2.2.2.2.2.1, y8.2.2.2.2.2.2.2.2.2.2.2.2.2.2.2.1, y8.2.2.2.2.2.2.2.2.2.2.2.2.2.2.2.2.1, y8.2.2.2.2.2.2.2.2.2.2.2.2.2.2.2.2.2.1, y8.2.2.2.2.2.2.2.2.2.2.2.2.2.2.2.2.2.2.1, y8.2.2.2.2.2.2.2.2.2.2.2.2.2.2.2.2.2.2.2.2.2.2.2.2.2.2.2.2.2.2.1, y12.2.2.1, y8.2.2.2.2.2.2.2.2.2.2.2.2.2.2.2.2.2.2.2.2.2.2.2.2.2.2.2.2.2.2.2.2.1, ()))
 else
 some (Sum.inl (y8.1, y8.2.1, y8.2.2.1, y8.2.2.2.1, y8.2.2.2.2.1, y8.2.2.2.2.2.1, y8.2.2.2.2.2.2.1, y8.2.2.2.2.2.2.2.1, y8.2.2.2.2.2.2.2.2.1, y8.2.2.2.2.2.2.2.2.2.1, y8.2.2.2.2.2.2.2.2.2.2.1, y8.2.2.2.2.2.2.2.2.2.2.2.1, y8.2.2.2.2.2.2.2.2.2.2.2.2.1, y8.2.2.2.2.2.2.2.2.2.2.2.2.2.1, y8.2.2.2.2.2.2.2.2.2.2.2.2.2.2.1, y8.2.2.2.2.2.2.2.2.2.2.2.2.2.2.2.1, y8.2.2.2.2.2.2.2.2.2.2.2.2.2.2.2.2.1, y8.2.2.2.2.2.2.2.2.2.2.2.2.2.2.2.2.2.1, y8.2.2.2.2.2.2.2.2.2.2.2.2.2.2.2.2.2.2.1, y8.2.2.2.2.2.2.2.2.2.2.2.2.2.2.2.2.2.2.2.2.2.2.2.2.2.2.2.2.2.2.1, y8.2.2.2.2.2.2.2.2.2.2.2.2.2.2.2.2.2.2.2.2.2.2.2.2.2.2.2.2.2.2.2.1, y8.2.2.2.2.2.2.2.2.2.2.2.2.2.2.2.2.2.2.2.2.2.2.2.2.2.2.2.2.2.2.2.2.1, ()))
 ) fun y13 =>
 Sum.elim (fun y14 =>
 bif inRange y14.2.2.1 (List.length y14.1) then
 Option.bind (f31 (IntKind.wrap .i64 (Int.tdiv (List.getD y14.1 (Int.toNat y14.2.2.1) 0) 3)) 4) fun y15 =>
 rec (y14.1, IntKind.wrap .i64 (IntKind.wrap .i64 (y14.2.1 + 1) + y15.1), IntKind.wrap .i64 (y14.2.2.1 + 1), y14.2.2.2.1, y14.2.2.2.2.1, y14.2.2.2.2.2.1, y14.2.2.2.2.2.2.1, y14.2.2.2.2.2.2.2.1, y14.2.2.2.2.2.2.2.2.1, y14.2.2.2.2.2.2.2.2.2.1, y14.2.2.2.2.2.2.2.2.2.2.1, y14.2.2.2.2.2.2.2.2.2.2.2.1, y14.2.2.2.2.2.2.2.2.2.2.2.2.1, y14.2.2.2.2.2.2.2.2.2.2.2.2.2.1, y14.2.2.2.2.2.2.2.2.2.2.2.2.2.2.1, y14.2.2.2.2.2.2.2.2.2.2.2.2.2.2.2.1, y14.2.2.2.2.2.2.2.2.2.2.2.2.2.2.2.2.1, y14.2.2.2.2.2.2.2.2.2.2.2.2.2.2.2.2.2.1, y14.2.2.2.2.2.2.2.2.2.2.2.2.2.2.2.2.2.2.1, y14.2.2.2.2.2.2.2.2.2.2.2.2.2.2.2.2.2.2.2.1, y14.2.2.2.2.2.2.2.2.2.2.2.2.2.2.2.2.2.2.2.2.1, y14.2.2.2.2.2.2.2.2.2.2.2.2.2.2.2.2.2.2.2.2.2.1, ())
 else
 none
 ) (fun z16 =>
 some (z16)
 ) (y13)
 else
 none
 else
 none
 else
 none
 ) (fun z17 =>
 some (z17)
 ) (y7)
 else
 none
 ) (fun z18 =>
 some (z18)
 ) (y0)
 else
 some (Sum.inl (x.2.2.2.1, x.2.2.2.2.1, x.2.2.2.2.2.1, x.2.2.2.2.2.2.1, x.2.2.2.2.2.2.2.1, x.2.2.2.2.2.2.2.2.1, x.2.2.2.2.2.2.2.2.2.1, x.2.2.2.2.2.2.2.2.2.2.1, x.2.2.2.2.2.2.2.2.2.2.2.1, x.2.2.2.2.2.2.2.2.2.2.2.2.1, x.2.2.2.2.2.2.2.2.2.2.2.2.2.1, x.2.2.2.2.2.2.2.2.2.2.2.2.2.2.1, x.2.2.2.2.2.2.2.2.2.2.2.2.2.2.2.1, x.2.2.2.2.2.2.2.2.2.2.2.2.2.2.2.2.1, x.2.2.2.2.2.2.2.2.2.2.2.2.2.2.2.2.2.1, x.2.2.2.2.2.2.2.2.2.2.2.2.2.2.2.2.2.2.1, x.2.2.2.2.2.2.2.2.2.2.2.2.2.2.2.2.2.2.2.1, x.2.2.2.2.2.2.2.2.2.2.2.2.2.2.2.2.2.2.2.2.1, x.2.2.2.2.2.2.2.2.2.2.2.2.2.2.2.2.2.2.2.2.2.1, ()))
 else
 some (Sum.inl (x.2.2.2.1, x.2.2.2.2.1, x.2.2.2.2.2.1, x.2.2.2.2.2.2.1, x.2.2.2.2.2.2.2.1, x.2.2.2.2.2.2.2.2.1, x.2.2.2.2.2.2.2.2.2.1, x.2.2.2.2.2.2.2.2.2.2.1, x.2.2.2.2.2.2.2.2.2.2.2.1, x.2.2.2.2.2.2.2.2.2.2.2.2.1, x.2.2.2.2.2.2.2.2.2.2.2.2.2.1, x.2.2.2.2.2.2.2.2.2.2.2.2.2.2.1, x.2.2.2.2.2.2.2.2.2.2.2.2.2.2.2.1, x.2.2.2.2.2.2.2.2.2.2.2.2.2.2.2.2.1, x.2.2.2.2.2.2.2.2.2.2.2.2.2.2.2.2.2.1, x.2.2.2.2.2.2.2.2.2.2.2.2.2.2.2.2.2.2.1, x.2.2.2.2.2.2.2.2.2.2.2.2.2.2.2.2.2.2.2.1, x.2.2.2.2.2.2.2.2.2.2.2.2.2.2.2.2.2.2.2.2.1, x.2.2.2.2.2.2.2.2.2.2.2.2.2.2.2.2.2.2.2.2.2.1, ()))
 ) (100000000000000000000) (x)
def f9 (a0 : Int) (a1 : Int) (a2 : List Int) (a3 : List (Int × Int × Int × Int)) (a4 : Int) : Option (Int × Int × Int × Int × Int × Int × Int × Int × List Int × List E11 × List (Int × Int × Int × Int) × Unit) :=
 Option.bind (f23 a0 a1 0 1 a3 50) fun y0 =>
 Option.bind (f31 a4 1048576) fun y1 =>
 Option.bind (α := Int × Int × Int × Int × Int × Int × Int × Int × Int × Int × Int × Int × Int × Int × Int × Int × List Int × List E11 × List (Int × Int × Int × Int) × Unit ⊕ Int × Int × Int × Int × Int × Int × Int × Int × List Int × List E11 × List (Int × Int × Int × Int) × Unit) (
 f9.L2 ((a2, 0, 0, 0, 0, 0, 0, 0, 0, 0, 0, y0.1, y1.1, y0.2.2.1, y0.2.2.2.1, y0.2.2.2.2.1, y0.2.2.2.2.2.1, y0.2.2.2.2.2.2.1, y0.2.2.2.2.2.2.2.1, y0.2.2.2.2.2.2.2.2.1, y0.2.2.2.2.2.2.2.2.2.1, y0.2.2.2.2.2.2.2.2.2.2.1, ()))
 ) fun y2 =>
 Sum.elim (fun y3 =>
 some ((y3.2.2.2.2.2.2.2.2.1, y3.2.2.2.2.2.2.2.2.2.1, y3.2.2.2.2.2.2.2.2.2.2.1, y3.2.2.2.2.2.2.2.2.2.2.2.1, y3.2.2.2.2.2.2.2.2.2.2.2.2.1, y3.2.2.2.2.2.2.2.2.2.2.2.2.2.1, y3.2.2.2.2.2.2.2.2.2.2.2.2.2.2.1, y3.2.2.2.2.2.2.2.2.2.2.2.2.2.2.2.1, y3.2.2.2.2.2.2.2.2.2.2.2.2.2.2.2.2.1, y3.2.2.2.2.2.2.2.2.2.2.2.2.2.2.2.2.2.1, y3.2.2.2.2.2.2.2.2.2.2.2.2.2.2.2.2.2.2.1, ()))
 ) (fun z4 =>
 some (z4)
 ) (y2)
def f9.ins : Shape := ⟨[(0, .c (.int .i64)), (1, .c (.int .i64)), (2, .c (.row (.int .i64))), (3, .c (.row (.prod (.int .i64) (.prod (.int .i64) (.prod (.int .i64) (.int .i64)))))), (4, .c (.int .i64))], []⟩
def f9.outs : List Shape := [⟨[(0, .agg [.int .i64, .int .i64, .int .i64, .int .i64, .own 0, .own 1, .own 2, .int .i64, .int .i64, .int .i64, .int .i64])], [(0, .arr (.int .u8)), (1, .arr (.prod (.int .i64) (.prod (.int .i64) (.prod (.int .i64) (.prod (.int .i64) (.prod (.int .i64) (.prod (.int .i64) (.prod (.int .i64) (.prod (.int .i64) (.prod (.int .i64) (.prod (.int .i64) (.int .i64)))))))))))), (2, .arr (.prod (.int .i64) (.prod (.int .i64) (.prod (.int .i64) (.int .i64)))))]⟩]
def f9.S : FnSpec := ⟨f9.ins, f9.outs, [], fun x => f9 x.1 x.2.1 x.2.2.1 x.2.2.2.1 x.2.2.2.2.1⟩
def f9.E (fuel : Nat) : Env := ⟨tis, [(18, f18.S), (25, f25.S), (23, f23.S), (31, f31.S), (17, f17.S), (20, f20.S), (26, f26.S)], [], [(9, ⟨[(2, .c (.row (.int .i64))), (10, .c (.ptr 0 0)), (11, .c (.ptr 1 0)), (12, .c (.int .i64)), (13, .c (.int .i64))], [(0, .box [.int .i64, .int .i64, .int .i64, .int .i64, .nils, .nils, .nils, .int .i64, .int .i64, .int .i64, .int .i64]), (1, .box [.int .i64, .int .i64, .int .i64, .int .i64, .own 2, .own 3, .own 4, .int .i64, .int .i64, .int .i64, .int .i64]), (2, .arr (.int .u8)), (3, .arr (.prod (.int .i64) (.prod (.int .i64) (.prod (.int .i64) (.prod (.int .i64) (.prod (.int .i64) (.prod (.int .i64) (.prod (.int .i64) (.prod (.int .i64) (.prod (.int .i64) (.prod (.int .i64) (.int .i64)))))))))))), (4, .arr (.prod (.int .i64) (.prod (.int .i64) (.prod (.int .i64) (.int .i64)))))]⟩), (10, ⟨[(2, .c (.row (.int .i64))), (10, .c (.ptr 0 0)), (11, .c (.ptr 1 0)), (12, .c (.int .i64)), (13, .c (.int .i64))], [(0, .box [.int .i64, .int .i64, .int .i64, .int .i64, .nils, .nils, .nils, .int .i64, .int .i64, .int .i64, .int .i64]), (1, .box [.int .i64, .int .i64, .int .i64, .int .i64, .own 2, .own 3, .own 4, .int .i64, .int .i64, .int .i64, .int .i64]), (2, .arr (.int .u8)), (3, .arr (.prod (.int .i64) (.prod (.int .i64) (.prod (.int .i64) (.prod (.int .i64) (.prod (.int .i64) (.prod (.int .i64) (.prod (.int .i64) (.prod (.int .i64) (.prod (.int .i64) (.prod (.int .i64) (.int .i64)))))))))))), (4, .arr (.prod (.int .i64) (.prod (.int .i64) (.prod (.int .i64) (.int .i64)))))]⟩), (15, ⟨[(2, .c (.row (.int .i64))), (10, .c (.ptr 0 0)), (11, .c (.ptr 1 0)), (12, .c (.int .i64)), (13, .c (.int .i64)), (14, .c (.ptr 2 0))], [(0, .box [.int .i64, .int .i64, .int .i64, .int .i64, .nils, .nils, .nils, .int .i64, .int .i64, .int .i64, .int .i64]), (1, .box [.int .i64, .int .i64, .int .i64, .int .i64, .own 3, .own 4, .own 5, .int .i64, .int .i64, .int .i64, .int .i64]), (2, .box [.int .i64, .int .i64, .int .i64, .int .i64, .int .i64, .int .i64, .int .i64, .int .i64, .int .i64, .int .i64, .int .i64]), (3, .arr (.int .u8)), (4, .arr (.prod (.int .i64) (.prod (.int .i64) (.prod (.int .i64) (.prod (.int .i64) (.prod (.int .i64) (.prod (.int .i64) (.prod (.int .i64) (.prod (.int .i64) (.prod (.int .i64) (.prod (.int .i64) (.int .i64)))))))))))), (5, .arr (.prod (.int .i64) (.prod (.int .i64) (.prod (.int .i64) (.int .i64)))))]⟩), (20, ⟨[(2, .c (.row (.int .i64))), (10, .c (.ptr 0 0)), (11, .c (.ptr 1 0)), (12, .c (.int .i64)), (13, .c (.int .i64))], [(0, .box [.int .i64, .int .i64, .int .i64, .int .i64, .nils, .nils, .nils, .int .i64, .int .i64, .int .i64, .int .i64]), (1, .box [.int .i64, .int .i64, .int .i64, .int .i64, .own 2, .own 3, .own 4, .int .i64, .int .i64, .int .i64, .int .i64]), (2, .arr (.int .u8)), (3, .arr (.prod (.int .i64) (.prod (.int .i64) (.prod (.int .i64) (.prod (.int .i64) (.prod (.int .i64) (.prod (.int .i64) (.prod (.int .i64) (.prod (.int .i64) (.prod (.int .i64) (.prod (.int .i64) (.int .i64)))))))))))), (4, .arr (.prod (.int .i64) (.prod (.int .i64) (.prod (.int .i64) (.int .i64)))))]⟩), (21, ⟨[(10, .c (.ptr 0 0)), (11, .c (.ptr 1 0))], [(0, .box [.int .i64, .int .i64, .int .i64, .int .i64, .nils, .nils, .nils, .int .i64, .int .i64, .int .i64, .int .i64]), (1, .box [.int .i64, .int .i64, .int .i64, .int .i64, .own 2, .own 3, .own 4, .int .i64, .int .i64, .int .i64, .int .i64]), (2, .arr (.int .u8)), (3, .arr (.prod (.int .i64) (.prod (.int .i64) (.prod (.int .i64) (.prod (.int .i64) (.prod (.int .i64) (.prod (.int .i64) (.prod (.int .i64) (.prod (.int .i64) (.prod (.int .i64) (.prod (.int .i64) (.int .i64)))))))))))), (4, .arr (.prod (.int .i64) (.prod (.int .i64) (.prod (.int .i64) (.int .i64)))))]⟩)], [(6, ⟨[(2, .c (.row (.int .i64))), (10, .c (.ptr 0 0)), (11, .c (.ptr 1 0)), (12, .c (.int .i64)), (13, .c (.int .i64))], [(0, .box [.int .i64, .int .i64, .int .i64, .int .i64, .nils, .nils, .nils, .int .i64, .int .i64, .int .i64, .int .i64]), (1, .box [.int .i64, .int .i64, .int .i64, .int .i64, .own 2, .own 3, .own 4, .int .i64, .int .i64, .int .i64, .int .i64]), (2, .arr (.int .u8)), (3, .arr (.prod (.int .i64) (.prod (.int .i64) (.prod (.int .i64) (.prod (.int .i64) (.prod (.int .i64) (.prod (.int .i64) (.prod (.int .i64) (.prod (.int .i64) (.prod (.int .i64) (.prod (.int .i64) (.int .i64)))))))))))), (4, .arr (.prod (.int .i64) (.prod (.int .i64) (.prod (.int .i64) (.int .i64)))))]⟩), (8, ⟨[(2, .c (.row (.int .i64))), (10, .c (.ptr 0 0)), (11, .c (.ptr 1 0)), (12, .c (.int .i64)), (13, .c (.int .i64))], [(0, .box [.int .i64, .int .i64, .int .i64, .int .i64, .nils, .nils, .nils, .int .i64, .int .i64, .int .i64, .int .i64]), (1, .box [.int .i64, .int .i64, .int .i64, .int .i64, .own 2, .own 3, .own 4, .int .i64, .int .i64, .int .i64, .int .i64]), (2, .arr (.int .u8)), (3, .arr (.prod (.int .i64) (.prod (.int .i64) (.prod (.int .i64) (.prod (.int .i64) (.prod (.int .i64) (.prod (.int .i64) (.prod (.int .i64) (.prod (.int .i64) (.prod (.int .i64) (.prod (.int .i64) (.int .i64)))))))))))), (4, .arr (.prod (.int .i64) (.prod (.int .i64) (.prod (.int .i64) (.int .i64)))))]⟩)], [], 0, [], fuel⟩
theorem f9.run : ∀ x, runFn (f9.E 100000000000000000000) Go.Proofs.Try.f9 ((Go.Proofs.Try.f9.body).getD .skip) f9.S x = f9.S.f x := by intro x; kernel_rfl
theorem f9.sound : Sound Go.Proofs.Try.prog 9 f9.S := sound_of_run (fun _ => f9.E 100000000000000000000) (by kernel_rfl) (by kernel_rfl) (by kernel_rfl) orders (fun _ => ⟨tis_ok, EqsOk.nil _, (FnsOk.cons f18.sound (FnsOk.cons f25.sound (FnsOk.cons f23.sound (FnsOk.cons f31.sound (FnsOk.cons f17.sound (FnsOk.cons f20.sound (FnsOk.cons f26.sound FnsOk.nil)))))))⟩) (fun _ => rfl) (by kernel_rfl) (by kernel_rfl) (fun x r h => (f9.run x).trans h)
/-! f16: adit/aditref1.Way -/
def f16 (a0 : Int) : Option (Int × Int × Unit) :=
 bif a0 == 1 then
 some ((0, -1, ()))
 else
 bif a0 == 2 then
 some ((1, 0, ()))
 else
 bif a0 == 3 then
 some ((0, 1, ()))
 else
 bif a0 == 4 then
 some ((-1, 0, ()))
 else
 some ((0, 0, ()))
def f16.ins : Shape := ⟨[(0, .c (.int .i64))], []⟩
def f16.outs : List Shape := [⟨[(0, .c (.int .i64)), (1, .c (.int .i64))], []⟩]
def f16.S : FnSpec := ⟨f16.ins, f16.outs, [], fun x => f16 x.1⟩
def f16.E (fuel : Nat) : Env := ⟨tis, [], [], [], [], [], 0, [], fuel⟩
theorem f16.run : ∀ x, runFn (f16.E 100000000000000000000) Go.Proofs.Try.f16 ((Go.Proofs.Try.f16.body).getD .skip) f16.S x = f16.S.f x := by intro x; kernel_rfl
theorem f16.sound : Sound Go.Proofs.Try.prog 16 f16.S := sound_of_run (fun _ => f16.E 100000000000000000000) (by kernel_rfl) (by kernel_rfl) (by kernel_rfl) orders (fun _ => ⟨tis_ok, EqsOk.nil _, FnsOk.nil⟩) (fun _ => rfl) (by kernel_rfl) (by kernel_rfl) (fun x r h => (f16.run x).trans h)
/-! f97: adit/ents.rows -/
def f97 (a0 : List E11) : Option (List E11 × Unit) :=
 bif decide ((0 : Int) ≤ 0 ∧ 0 ≤ minI (↑(List.length a0) : Int) 32 ∧ minI (↑(List.length a0) : Int) 32 ≤ (↑(List.length a0) : Int)) then
 some ((List.drop 0 (List.take (Int.toNat (minI (↑(List.length a0) : Int) 32)) a0), ()))
 else
 none
def f97.ins : Shape := ⟨[(0, .c (.row (.prod (.int .i64) (.prod (.int .i64) (.prod (.int .i64) (.prod (.int .i64) (.prod (.int .i64) (.prod (.int .i64) (.prod (.int .i64) (.prod (.int .i64) (.prod (.int .i64) (.prod (.int .i64) (.int .i64)))))))))))))], []⟩
def f97.outs : List Shape := [⟨[(0, .c (.row (.prod (.int .i64) (.prod (.int .i64) (.prod (.int .i64) (.prod (.int .i64) (.prod (.int .i64) (.prod (.int .i64) (.prod (.int .i64) (.prod (.int .i64) (.prod (.int .i64) (.prod (.int .i64) (.int .i64)))))))))))))], []⟩]
def f97.S : FnSpec := ⟨f97.ins, f97.outs, [], fun x => f97 x.1⟩
def f97.E (fuel : Nat) : Env := ⟨tis, [], [], [], [], [], 0, [], fuel⟩
theorem f97.run : ∀ x, runFn (f97.E 100000000000000000000) Go.Proofs.Try.f97 ((Go.Proofs.Try.f97.body).getD .skip) f97.S x = f97.S.f x := by intro x; kernel_rfl
theorem f97.sound : Sound Go.Proofs.Try.prog 97 f97.S := sound_of_run (fun _ => f97.E 100000000000000000000) (by kernel_rfl) (by kernel_rfl) (by kernel_rfl) orders (fun _ => ⟨tis_ok, EqsOk.nil _, FnsOk.nil⟩) (fun _ => rfl) (by kernel_rfl) (by kernel_rfl) (fun x r h => (f97.run x).trans h)
/-! f89: adit/ents.Hero$1 -/
def f89 (a0 : Int) (a1 : Int) (a2 : Int) (a3 : Int) (a4 : Int) (a5 : Int) (a6 : Int) (a7 : Int) (a8 : Int) (a9 : Int) (a10 : Int) (a11 : Int) (a12 : Int) : Option (Bool × Unit) :=
 bif a1 == 1 then
 some ((a3 == a12, ()))
 else
 some ((Bool.false, ()))
def f89.ins : Shape := ⟨[(0, .c (.int .i64)), (1, .agg [.int .i64, .int .i64, .int .i64, .int .i64, .int .i64, .int .i64, .int .i64, .int .i64, .int .i64, .int .i64, .int .i64]), (2, .c (.bptr (.int .i64)))], []⟩
def f89.outs : List Shape := [⟨[(0, .c (.bool))], []⟩]
def f89.S : FnSpec := ⟨f89.ins, f89.outs, [], fun x => f89 x.1 x.2.1 x.2.2.1 x.2.2.2.1 x.2.2.2.2.1 x.2.2.2.2.2.1 x.2.2.2.2.2.2.1 x.2.2.2.2.2.2.2.1 x.2.2.2.2.2.2.2.2.1 x.2.2.2.2.2.2.2.2.2.1 x.2.2.2.2.2.2.2.2.2.2.1 x.2.2.2.2.2.2.2.2.2.2.2.1 x.2.2.2.2.2.2.2.2.2.2.2.2.1⟩
def f89.E (fuel : Nat) : Env := ⟨tis, [], [], [], [], [], 0, [], fuel⟩
theorem f89.run : ∀ x, runFn (f89.E 100000000000000000000) Go.Proofs.Try.f89 ((Go.Proofs.Try.f89.body).getD .skip) f89.S x = f89.S.f x := by intro x; kernel_rfl
theorem f89.sound : Sound Go.Proofs.Try.prog 89 f89.S := sound_of_run (fun _ => f89.E 100000000000000000000) (by kernel_rfl) (by kernel_rfl) (by kernel_rfl) orders (fun _ => ⟨tis_ok, EqsOk.nil _, FnsOk.nil⟩) (fun _ => rfl) (by kernel_rfl) (by kernel_rfl) (fun x r h => (f89.run x).trans h)
/-! f87: adit/ents.find -/
def f87.L1 (x : List E11 × Int × Int × Int × Unit) : Option (Int × Int × Unit) :=
 it (X := List E11 × Int × Int × Int × Unit) (fun rec x =>
 bif decide (x.2.2.1 < x.2.1) then
 bif inRange x.2.2.1 (List.length x.1) then
 Option.bind (f89 x.2.2.1 (List.getD x.1 (Int.toNat x.2.2.1) (0, 0, 0, 0, 0, 0, 0, 0, 0, 0, 0)).1 (List.getD x.1 (Int.toNat x.2.2.1) (0, 0, 0, 0, 0, 0, 0, 0, 0, 0, 0)).2.1 (List.getD x.1 (Int.toNat x.2.2.1) (0, 0, 0, 0, 0, 0, 0, 0, 0, 0, 0)).2.2.1 (List.getD x.1 (Int.toNat x.2.2.1) (0, 0, 0, 0, 0, 0, 0, 0, 0, 0, 0)).2.2.2.1 (List.getD x.1 (Int.toNat x.2.2.1) (0, 0, 0, 0, 0, 0, 0, 0, 0, 0, 0)).2.2.2.2.1 (List.getD x.1 (Int.toNat x.2.2.1) (0, 0, 0, 0, 0, 0, 0, 0, 0, 0, 0)).2.2.2.2.2.1 (List.getD x.1 (Int.toNat x.2.2.1) (0, 0, 0, 0, 0, 0, 0, 0, 0, 0, 0)).2.2.2.2.2.2.1 (List.getD x.1 (Int.toNat x.2.2.1) (0, 0, 0, 0, 0, 0, 0, 0, 0, 0, 0)).2.2.2.2.2.2.2.1 (List.getD x.1 (Int.toNat x.2.2.1) (0, 0, 0, 0, 0, 0, 0, 0, 0, 0, 0)).2.2.2.2.2.2.2.2.1 (List.getD x.1 (Int.toNat x.2.2.1) (0, 0, 0, 0, 0, 0, 0, 0, 0, 0, 0)).2.2.2.2.2.2.2.2.2.1 (List.getD x.1 (Int.toNat x.2.2.1) (0, 0, 0, 0, 0, 0, 0, 0, 0, 0, 0)).2.2.2.2.2.2.2.2.2.2 x.2.2.2.1) fun y0 =>
 bif y0.1 then
 some ((x.2.2.1, x.2.2.2.1, ()))
 else
 rec (x.1, x.2.1, IntKind.wrap .i64 (x.2.2.1 + 1), x.2.2.2.1, ())
 else
 none
 else
 some ((-1, x.2.2.2.1, ()))
 ) (100000000000000000000) (x)
def f87 (a0 : List E11) (a1 : Int) : Option (Int × Int × Unit) :=
 Option.bind (f97 a0) fun y0 =>
 f87.L1 ((y0.1, (↑(List.length y0.1) : Int), 0, a1, ()))
def f87.ins : Shape := ⟨[(0, .c (.row (.prod (.int .i64) (.prod (.int .i64) (.prod (.int .i64) (.prod (.int .i64) (.prod (.int .i64) (.prod (.int .i64) (.prod (.int .i64) (.prod (.int .i64) (.prod (.int .i64) (.prod (.int .i64) (.int .i64))))))))))))), (1, .c (.fn 89 [0]))], [(0, .box [.int .i64])]⟩
def f87.outs : List Shape := [⟨[(0, .c (.int .i64))], [(0, .box [.int .i64])]⟩]
def f87.S : FnSpec := ⟨f87.ins, f87.outs, [0], fun x => f87 x.1 x.2.1⟩
def f87.E (fuel : Nat) : Env := ⟨tis, [(97, f97.S), (89, f89.S)], [], [], [(3, ⟨[(1, .c (.fn 89 [0])), (8, .c (.row (.prod (.int .i64) (.prod (.int .i64) (.prod (.int .i64) (.prod (.int .i64) (.prod (.int .i64) (.prod (.int .i64) (.prod (.int .i64) (.prod (.int .i64) (.prod (.int .i64) (.prod (.int .i64) (.int .i64))))))))))))), (9, .c (.int .i64)), (10, .c (.int .i64))], [(0, .box [.int .i64])]⟩)], [], 1, [0], fuel⟩
theorem f87.run : ∀ x, runFn (f87.E 100000000000000000000) Go.Proofs.Try.f87 ((Go.Proofs.Try.f87.body).getD .skip) f87.S x = f87.S.f x := by intro x; kernel_rfl
theorem f87.sound : Sound Go.Proofs.Try.prog 87 f87.S := sound_of_run (fun _ => f87.E 100000000000000000000) (by kernel_rfl) (by kernel_rfl) (by kernel_rfl) orders (fun _ => ⟨tis_ok, EqsOk.nil _, (FnsOk.cons f97.sound (FnsOk.cons f89.sound FnsOk.nil))⟩) (fun _ => rfl) (by kernel_rfl) (by kernel_rfl) (fun x r h => (f87.run x).trans h)
/-! f76: adit/ents.Hero -/
def f76 (a0 : List E11) (a1 : Int) : Option (Int × Unit) :=
 Option.bind (f87 a0 a1) fun y0 =>
 some ((y0.1, ()))
def f76.ins : Shape := ⟨[(0, .c (.row (.prod (.int .i64) (.prod (.int .i64) (.prod (.int .i64) (.prod (.int .i64) (.prod (.int .i64) (.prod (.int .i64) (.prod (.int .i64) (.prod (.int .i64) (.prod (.int .i64) (.prod (.int .i64) (.int .i64))))))))))))), (1, .c (.int .i64))], []⟩
def f76.outs : List Shape := [⟨[(0, .c (.int .i64))], []⟩]
def f76.S : FnSpec := ⟨f76.ins, f76.outs, [], fun x => f76 x.1 x.2.1⟩
def f76.E (fuel : Nat) : Env := ⟨tis, [(87, f87.S)], [], [], [], [], 0, [], fuel⟩
theorem f76.run : ∀ x, runFn (f76.E 100000000000000000000) Go.Proofs.Try.f76 ((Go.Proofs.Try.f76.body).getD .skip) f76.S x = f76.S.f x := by intro x; kernel_rfl
theorem f76.sound : Sound Go.Proofs.Try.prog 76 f76.S := sound_of_run (fun _ => f76.E 100000000000000000000) (by kernel_rfl) (by kernel_rfl) (by kernel_rfl) orders (fun _ => ⟨tis_ok, EqsOk.nil _, (FnsOk.cons f87.sound FnsOk.nil)⟩) (fun _ => rfl) (by kernel_rfl) (by kernel_rfl) (fun x r h => (f76.run x).trans h)
/-! f103: adit/minds.bag -/
def f103.L1 (x : Int × Bool × Int × List (Int × Int × Int × Int) × Int × Int × Unit) : Option (Bool × Bool × Unit) :=
 it (X := Int × Bool × Int × List (Int × Int × Int × Int) × Int × Int × Unit) (fun rec x =>
 bif decide (x.2.2.2.2.2.1 < x.2.2.2.2.1) then
 bif inRange x.2.2.2.2.2.1 (List.length x.2.2.2.1) then
 bif (List.getD x.2.2.2.1 (Int.toNat x.2.2.2.2.2.1) (0, 0, 0, 0)).1 != 0 then
 bif (List.getD x.2.2.2.1 (Int.toNat x.2.2.2.2.2.1) (0, 0, 0, 0)).2.1 == 2 then
 bif (List.getD x.2.2.2.1 (Int.toNat x.2.2.2.2.2.1) (0, 0, 0, 0)).2.2.1 == x.1 then
 bif x.2.1 then
 rec (x.1, Bool.true, IntKind.wrap .i64 (x.2.2.1 + 1), x.2.2.2.1, x.2.2.2.2.1, IntKind.wrap .i64 (x.2.2.2.2.2.1 + 1), ())
 else
 rec (x.1, (List.getD x.2.2.2.1 (Int.toNat x.2.2.2.2.2.1) (0, 0, 0, 0)).1 == 1, IntKind.wrap .i64 (x.2.2.1 + 1), x.2.2.2.1, x.2.2.2.2.1, IntKind.wrap .i64 (x.2.2.2.2.2.1 + 1), ())
 else
 rec (x.1, x.2.1, x.2.2.1, x.2.2.2.1, x.2.2.2.2.1, IntKind.wrap .i64 (x.2.2.2.2.2.1 + 1), ())
 else
 rec (x.1, x.2.1, x.2.2.1, x.2.2.2.1, x.2.2.2.2.1, IntKind.wrap .i64 (x.2.2.2.2.2.1 + 1), ())
 else
 rec (x.1, x.2.1, x.2.2.1, x.2.2.2.1, x.2.2.2.2.1, IntKind.wrap .i64 (x.2.2.2.2.2.1 + 1), ())
 else
 none
 else
 some ((x.2.1, decide (x.2.2.1 < 4), ()))
 ) (100000000000000000000) (x)
def f103 (a0 : Int) (a1 : Int) (a2 : Int) (a3 : Int) (a4 : List Int) (a5 : List E11) (a6 : List (Int × Int × Int × Int)) (a7 : Int) (a8 : Int) (a9 : Int) (a10 : Int) (a11 : Int) : Option (Bool × Bool × Unit) :=
 f103.L1 ((a11, Bool.false, 0, a6, (↑(List.length a6) : Int), 0, ()))
def f103.ins : Shape := ⟨[(0, .agg [.int .i64, .int .i64, .int .i64, .int .i64, .row (.int .u8), .row (.prod (.int .i64) (.prod (.int .i64) (.prod (.int .i64) (.prod (.int .i64) (.prod (.int .i64) (.prod (.int .i64) (.prod (.int .i64) (.prod (.int .i64) (.prod (.int .i64) (.prod (.int .i64) (.int .i64))))))))))), .row (.prod (.int .i64) (.prod (.int .i64) (.prod (.int .i64) (.int .i64)))), .int .i64, .int .i64, .int .i64, .int .i64]), (1, .c (.int .i64))], []⟩
def f103.outs : List Shape := [⟨[(0, .c (.bool)), (1, .c (.bool))], []⟩]
def f103.S : FnSpec := ⟨f103.ins, f103.outs, [], fun x => f103 x.1 x.2.1 x.2.2.1 x.2.2.2.1 x.2.2.2.2.1 x.2.2.2.2.2.1 x.2.2.2.2.2.2.1 x.2.2.2.2.2.2.2.1 x.2.2.2.2.2.2.2.2.1 x.2.2.2.2.2.2.2.2.2.1 x.2.2.2.2.2.2.2.2.2.2.1 x.2.2.2.2.2.2.2.2.2.2.2.1⟩
def f103.E (fuel : Nat) : Env := ⟨tis, [], [], [], [(4, ⟨[(1, .c (.int .i64)), (4, .c (.bool)), (6, .c (.int .i64)), (10, .c (.row (.prod (.int .i64) (.prod (.int .i64) (.prod (.int .i64) (.int .i64)))))), (11, .c (.int .i64)), (12, .c (.int .i64))], []⟩)], [], 0, [], fuel⟩
theorem f103.run : ∀ x, runFn (f103.E 100000000000000000000) Go.Proofs.Try.f103 ((Go.Proofs.Try.f103.body).getD .skip) f103.S x = f103.S.f x := by intro x; kernel_rfl
theorem f103.sound : Sound Go.Proofs.Try.prog 103 f103.S := sound_of_run (fun _ => f103.E 100000000000000000000) (by kernel_rfl) (by kernel_rfl) (by kernel_rfl) orders (fun _ => ⟨tis_ok, EqsOk.nil _, FnsOk.nil⟩) (fun _ => rfl) (by kernel_rfl) (by kernel_rfl) (fun x r h => (f103.run x).trans h)
/-! f94: adit/fix.turned -/
def f94.L1 (x : Int × Int × Int × Int × Unit) : Option (Int × Int × Unit) :=
 it (X := Int × Int × Int × Int × Unit) (fun rec x =>
 bif decide (x.2.2.2.1 < x.2.2.1) then
 bif small x.1 && small x.2.1 then
 rec (-x.2.1, x.1, x.2.2.1, IntKind.wrap .i64 (x.2.2.2.1 + 1), ())
 else
 none
 else
 some ((x.1, x.2.1, ()))
 ) (100000000000000000000) (x)
def f94 (a0 : Int) (a1 : Int) (a2 : Int) : Option (Int × Int × Unit) :=
 f94.L1 ((a0, a1, Int.tmod (IntKind.wrap .i64 (Int.tmod a2 4 + 4)) 4, 0, ()))
def f94.ins : Shape := ⟨[(0, .c (.cint)), (1, .c (.int .i64))], []⟩
def f94.outs : List Shape := [⟨[(0, .c (.cint))], []⟩]
def f94.S : FnSpec := ⟨f94.ins, f94.outs, [], fun x => f94 x.1 x.2.1 x.2.2.1⟩
def f94.E (fuel : Nat) : Env := ⟨tis, [], [], [], [(3, ⟨[(0, .c (.cint)), (8, .c (.int .i64)), (9, .c (.int .i64))], []⟩)], [], 0, [], fuel⟩
theorem f94.run : ∀ x, runFn (f94.E 100000000000000000000) Go.Proofs.Try.f94 ((Go.Proofs.Try.f94.body).getD .skip) f94.S x = f94.S.f x := by intro x; kernel_rfl
theorem f94.sound : Sound Go.Proofs.Try.prog 94 f94.S := sound_of_run (fun _ => f94.E 100000000000000000000) (by kernel_rfl) (by kernel_rfl) (by kernel_rfl) orders (fun _ => ⟨tis_ok, EqsOk.nil _, FnsOk.nil⟩) (fun _ => rfl) (by kernel_rfl) (by kernel_rfl) (fun x r h => (f94.run x).trans h)
/-! f93: adit/fix.plain -/
def f93 (a0 : Int) (a1 : Int) : Option (Int × Int × Unit) :=
 bif small a0 then
 bif small a1 then
 some ((a0, a1, ()))
 else
 none
 else
 none
def f93.ins : Shape := ⟨[(0, .c (.cint))], []⟩
def f93.outs : List Shape := [⟨[(0, .c (.int .i64)), (1, .c (.int .i64))], []⟩]
def f93.S : FnSpec := ⟨f93.ins, f93.outs, [], fun x => f93 x.1 x.2.1⟩
def f93.E (fuel : Nat) : Env := ⟨tis, [], [], [], [], [], 0, [], fuel⟩
theorem f93.run : ∀ x, runFn (f93.E 100000000000000000000) Go.Proofs.Try.f93 ((Go.Proofs.Try.f93.body).getD .skip) f93.S x = f93.S.f x := by intro x; kernel_rfl
theorem f93.sound : Sound Go.Proofs.Try.prog 93 f93.S := sound_of_run (fun _ => f93.E 100000000000000000000) (by kernel_rfl) (by kernel_rfl) (by kernel_rfl) orders (fun _ => ⟨tis_ok, EqsOk.nil _, FnsOk.nil⟩) (fun _ => rfl) (by kernel_rfl) (by kernel_rfl) (fun x r h => (f93.run x).trans h)
/-! f79: adit/fix.Way -/
def f79 (a0 : Int) : Option (Int × Int × Unit) :=
 bif decide (a0 < 1) then
 some ((0, 0, ()))
 else
 bif decide (a0 > 4) then
 some ((0, 0, ()))
 else
 Option.bind (f94 0 (-1) (IntKind.wrap .i64 (a0 - 1))) fun y0 =>
 Option.bind (f93 y0.1 y0.2.1) fun y1 =>
 some ((y1.1, y1.2.1, ()))
def f79.ins : Shape := ⟨[(0, .c (.int .i64))], []⟩
def f79.outs : List Shape := [⟨[(0, .c (.int .i64)), (1, .c (.int .i64))], []⟩]
def f79.S : FnSpec := ⟨f79.ins, f79.outs, [], fun x => f79 x.1⟩
def f79.E (fuel : Nat) : Env := ⟨tis, [(94, f94.S), (93, f93.S)], [], [], [], [], 0, [], fuel⟩
theorem f79.run : ∀ x, runFn (f79.E 100000000000000000000) Go.Proofs.Try.f79 ((Go.Proofs.Try.f79.body).getD .skip) f79.S x = f79.S.f x := by intro x; kernel_rfl
theorem f79.sound : Sound Go.Proofs.Try.prog 79 f79.S := sound_of_run (fun _ => f79.E 100000000000000000000) (by kernel_rfl) (by kernel_rfl) (by kernel_rfl) orders (fun _ => ⟨tis_ok, EqsOk.nil _, (FnsOk.cons f94.sound (FnsOk.cons f93.sound FnsOk.nil))⟩) (fun _ => rfl) (by kernel_rfl) (by kernel_rfl) (fun x r h => (f79.run x).trans h)
/-! f72: adit/minds.ahead -/
def f72 (a0 : Int) (a1 : Int) (a2 : Int) (a3 : Int) (a4 : Int) (a5 : Int) (a6 : Int) (a7 : Int) (a8 : Int) (a9 : Int) (a10 : Int) (a11 : Int) : Option (Int × Int × Unit) :=
 Option.bind (f79 a11) fun y0 =>
 bif small a3 then
 bif small a4 then
 bif small y0.1 then
 bif small y0.2.1 then
 bif small (a3 + y0.1) && small (a4 + y0.2.1) then
 bif small (a3 + y0.1) then
 bif small (a4 + y0.2.1) then
 some ((a3 + y0.1, a4 + y0.2.1, ()))
 else
 none
 else
 none
 else
 none
 else
 none
 else
 none
 else
 none
 else
 none
def f72.ins : Shape := ⟨[(0, .agg [.int .i64, .int .i64, .int .i64, .int .i64, .int .i64, .int .i64, .int .i64, .int .i64, .int .i64, .int .i64, .int .i64]), (1, .c (.int .i64))], []⟩
def f72.outs : List Shape := [⟨[(0, .c (.int .i64)), (1, .c (.int .i64))], []⟩]
def f72.S : FnSpec := ⟨f72.ins, f72.outs, [], fun x => f72 x.1 x.2.1 x.2.2.1 x.2.2.2.1 x.2.2.2.2.1 x.2.2.2.2.2.1 x.2.2.2.2.2.2.1 x.2.2.2.2.2.2.2.1 x.2.2.2.2.2.2.2.2.1 x.2.2.2.2.2.2.2.2.2.1 x.2.2.2.2.2.2.2.2.2.2.1 x.2.2.2.2.2.2.2.2.2.2.2.1⟩
def f72.E (fuel : Nat) : Env := ⟨tis, [(79, f79.S)], [], [], [], [], 0, [], fuel⟩
theorem f72.run : ∀ x, runFn (f72.E 100000000000000000000) Go.Proofs.Try.f72 ((Go.Proofs.Try.f72.body).getD .skip) f72.S x = f72.S.f x := by intro x; kernel_rfl
theorem f72.sound : Sound Go.Proofs.Try.prog 72 f72.S := sound_of_run (fun _ => f72.E 100000000000000000000) (by kernel_rfl) (by kernel_rfl) (by kernel_rfl) orders (fun _ => ⟨tis_ok, EqsOk.nil _, (FnsOk.cons f79.sound FnsOk.nil)⟩) (fun _ => rfl) (by kernel_rfl) (by kernel_rfl) (fun x r h => (f72.run x).trans h)
/-! f88: adit/ents.At$1 -/
def f88 (a0 : Int) (a1 : Int) (a2 : Int) (a3 : Int) (a4 : Int) (a5 : Int) (a6 : Int) (a7 : Int) (a8 : Int) (a9 : Int) (a10 : Int) (a11 : Int) (a12 : Int) (a13 : Int) : Option (Bool × Unit) :=
 bif a1 != 0 then
 some ((a4 == a12 && (a5 == a13 && Bool.true), ()))
 else
 some ((Bool.false, ()))
def f88.ins : Shape := ⟨[(0, .c (.int .i64)), (1, .agg [.int .i64, .int .i64, .int .i64, .int .i64, .int .i64, .int .i64, .int .i64, .int .i64, .int .i64, .int .i64, .int .i64]), (2, .c (.bptr (.int .i64))), (3, .c (.bptr (.int .i64)))], []⟩
def f88.outs : List Shape := [⟨[(0, .c (.bool))], []⟩]
def f88.S : FnSpec := ⟨f88.ins, f88.outs, [], fun x => f88 x.1 x.2.1 x.2.2.1 x.2.2.2.1 x.2.2.2.2.1 x.2.2.2.2.2.1 x.2.2.2.2.2.2.1 x.2.2.2.2.2.2.2.1 x.2.2.2.2.2.2.2.2.1 x.2.2.2.2.2.2.2.2.2.1 x.2.2.2.2.2.2.2.2.2.2.1 x.2.2.2.2.2.2.2.2.2.2.2.1 x.2.2.2.2.2.2.2.2.2.2.2.2.1 x.2.2.2.2.2.2.2.2.2.2.2.2.2.1⟩
def f88.E (fuel : Nat) : Env := ⟨tis, [], [(114, [.int .i64, .int .i64])], [], [], [], 0, [], fuel⟩
theorem f88.run : ∀ x, runFn (f88.E 100000000000000000000) Go.Proofs.Try.f88 ((Go.Proofs.Try.f88.body).getD .skip) f88.S x = f88.S.f x := by intro x; kernel_rfl
theorem f88.sound : Sound Go.Proofs.Try.prog 88 f88.S := sound_of_run (fun _ => f88.E 100000000000000000000) (by kernel_rfl) (by kernel_rfl) (by kernel_rfl) orders (fun _ => ⟨tis_ok, (EqsOk.cons eq114 (EqsOk.nil _)), FnsOk.nil⟩) (fun _ => rfl) (by kernel_rfl) (by kernel_rfl) (fun x r h => (f88.run x).trans h)
/-! f87_1: adit/ents.find -/
def f87_1.L1 (x : List E11 × Int × Int × Int × Int × Unit) : Option (Int × Int × Int × Unit) :=
 it (X := List E11 × Int × Int × Int × Int × Unit) (fun rec x =>
 bif decide (x.2.2.1 < x.2.1) then
 bif inRange x.2.2.1 (List.length x.1) then
 Option.bind (f88 x.2.2.1 (List.getD x.1 (Int.toNat x.2.2.1) (0, 0, 0, 0, 0, 0, 0, 0, 0, 0, 0)).1 (List.getD x.1 (Int.toNat x.2.2.1) (0, 0, 0, 0, 0, 0, 0, 0, 0, 0, 0)).2.1 (List.getD x.1 (Int.toNat x.2.2.1) (0, 0, 0, 0, 0, 0, 0, 0, 0, 0, 0)).2.2.1 (List.getD x.1 (Int.toNat x.2.2.1) (0, 0, 0, 0, 0, 0, 0, 0, 0, 0, 0)).2.2.2.1 (List.getD x.1 (Int.toNat x.2.2.1) (0, 0, 0, 0, 0, 0, 0, 0, 0, 0, 0)).2.2.2.2.1 (List.getD x.1 (Int.toNat x.2.2.1) (0, 0, 0, 0, 0, 0, 0, 0, 0, 0, 0)).2.2.2.2.2.1 (List.getD x.1 (Int.toNat x.2.2.1) (0, 0, 0, 0, 0, 0, 0, 0, 0, 0, 0)).2.2.2.2.2.2.1 (List.getD x.1 (Int.toNat x.2.2.1) (0, 0, 0, 0, 0, 0, 0, 0, 0, 0, 0)).2.2.2.2.2.2.2.1 (List.getD x.1 (Int.toNat x.2.2.1) (0, 0, 0, 0, 0, 0, 0, 0, 0, 0, 0)).2.2.2.2.2.2.2.2.1 (List.getD x.1 (Int.toNat x.2.2.1) (0, 0, 0, 0, 0, 0, 0, 0, 0, 0, 0)).2.2.2.2.2.2.2.2.2.1 (List.getD x.1 (Int.toNat x.2.2.1) (0, 0, 0, 0, 0, 0, 0, 0, 0, 0, 0)).2.2.2.2.2.2.2.2.2.2 x.2.2.2.1 x.2.2.2.2.1) fun y0 =>
 bif y0.1 then
 some ((x.2.2.1, x.2.2.2.1, x.2.2.2.2.1, ()))
 else
 rec (x.1, x.2.1, IntKind.wrap .i64 (x.2.2.1 + 1), x.2.2.2.1, x.2.2.2.2.1, ())
 else
 none
 else
 some ((-1, x.2.2.2.1, x.2.2.2.2.1, ()))
 ) (100000000000000000000) (x)
def f87_1 (a0 : List E11) (a1 : Int) (a2 : Int) : Option (Int × Int × Int × Unit) :=
 Option.bind (f97 a0) fun y0 =>
 f87_1.L1 ((y0.1, (↑(List.length y0.1) : Int), 0, a1, a2, ()))
def f87_1.ins : Shape := ⟨[(0, .c (.row (.prod (.int .i64) (.prod (.int .i64) (.prod (.int .i64) (.prod (.int .i64) (.prod (.int .i64) (.prod (.int .i64) (.prod (.int .i64) (.prod (.int .i64) (.prod (.int .i64) (.prod (.int .i64) (.int .i64))))))))))))), (1, .c (.fn 88 [0, 1]))], [(0, .box [.int .i64]), (1, .box [.int .i64])]⟩
def f87_1.outs : List Shape := [⟨[(0, .c (.int .i64))], [(0, .box [.int .i64]), (1, .box [.int .i64])]⟩]
def f87_1.S : FnSpec := ⟨f87_1.ins, f87_1.outs, [0, 1], fun x => f87_1 x.1 x.2.1 x.2.2.1⟩
def f87_1.E (fuel : Nat) : Env := ⟨tis, [(97, f97.S), (88, f88.S)], [], [], [(3, ⟨[(1, .c (.fn 88 [0, 1])), (8, .c (.row (.prod (.int .i64) (.prod (.int .i64) (.prod (.int .i64) (.prod (.int .i64) (.prod (.int .i64) (.prod (.int .i64) (.prod (.int .i64) (.prod (.int .i64) (.prod (.int .i64) (.prod (.int .i64) (.int .i64))))))))))))), (9, .c (.int .i64)), (10, .c (.int .i64))], [(0, .box [.int .i64]), (1, .box [.int .i64])]⟩)], [], 2, [0, 1], fuel⟩
theorem f87_1.run : ∀ x, runFn (f87_1.E 100000000000000000000) Go.Proofs.Try.f87 ((Go.Proofs.Try.f87.body).getD .skip) f87_1.S x = f87_1.S.f x := by intro x; kernel_rfl
theorem f87_1.sound : Sound Go.Proofs.Try.prog 87 f87_1.S := sound_of_run (fun _ => f87_1.E 100000000000000000000) (by kernel_rfl) (by kernel_rfl) (by kernel_rfl) orders (fun _ => ⟨tis_ok, EqsOk.nil _, (FnsOk.cons f97.sound (FnsOk.cons f88.sound FnsOk.nil))⟩) (fun _ => rfl) (by kernel_rfl) (by kernel_rfl) (fun x r h => (f87_1.run x).trans h)
/-! f75: adit/ents.At -/
def f75 (a0 : List E11) (a1 : Int) (a2 : Int) : Option (Int × Unit) :=
 Option.bind (f87_1 a0 a1 a2) fun y0 =>
 some ((y0.1, ()))
def f75.ins : Shape := ⟨[(0, .c (.row (.prod (.int .i64) (.prod (.int .i64) (.prod (.int .i64) (.prod (.int .i64) (.prod (.int .i64) (.prod (.int .i64) (.prod (.int .i64) (.prod (.int .i64) (.prod (.int .i64) (.prod (.int .i64) (.int .i64))))))))))))), (1, .c (.int .i64)), (2, .c (.int .i64))], []⟩
def f75.outs : List Shape := [⟨[(0, .c (.int .i64))], []⟩]
def f75.S : FnSpec := ⟨f75.ins, f75.outs, [], fun x => f75 x.1 x.2.1 x.2.2.1⟩
def f75.E (fuel : Nat) : Env := ⟨tis, [(87, f87_1.S)], [], [], [], [], 0, [], fuel⟩
theorem f75.run : ∀ x, runFn (f75.E 100000000000000000000) Go.Proofs.Try.f75 ((Go.Proofs.Try.f75.body).getD .skip) f75.S x = f75.S.f x := by intro x; kernel_rfl
theorem f75.sound : Sound Go.Proofs.Try.prog 75 f75.S := sound_of_run (fun _ => f75.E 100000000000000000000) (by kernel_rfl) (by kernel_rfl) (by kernel_rfl) orders (fun _ => ⟨tis_ok, EqsOk.nil _, (FnsOk.cons f87_1.sound FnsOk.nil)⟩) (fun _ => rfl) (by kernel_rfl) (by kernel_rfl) (fun x r h => (f75.run x).trans h)
/-! f104: adit/minds.worth -/
def f104.L1 (x : Int × Int × Bool × List (Int × Int × Int × Int) × Int × Int × Unit) : Option (Bool × Unit) :=
 it (X := Int × Int × Bool × List (Int × Int × Int × Int) × Int × Int × Unit) (fun rec x =>
 bif decide (x.2.2.2.2.2.1 < x.2.2.2.2.1) then
 bif inRange x.2.2.2.2.2.1 (List.length x.2.2.2.1) then
 bif (List.getD x.2.2.2.1 (Int.toNat x.2.2.2.2.2.1) (0, 0, 0, 0)).1 != 0 then
 bif (List.getD x.2.2.2.1 (Int.toNat x.2.2.2.2.2.1) (0, 0, 0, 0)).2.1 == 1 then
 bif (List.getD x.2.2.2.1 (Int.toNat x.2.2.2.2.2.1) (0, 0, 0, 0)).2.2.1 == x.1 then
 bif (List.getD x.2.2.2.1 (Int.toNat x.2.2.2.2.2.1) (0, 0, 0, 0)).2.2.2 == x.2.1 then
 bif x.2.2.1 then
 some ((Bool.true, ()))
 else
 some (((List.getD x.2.2.2.1 (Int.toNat x.2.2.2.2.2.1) (0, 0, 0, 0)).1 == 4, ()))
 else
 rec (x.1, x.2.1, x.2.2.1, x.2.2.2.1, x.2.2.2.2.1, IntKind.wrap .i64 (x.2.2.2.2.2.1 + 1), ())
 else
 rec (x.1, x.2.1, x.2.2.1, x.2.2.2.1, x.2.2.2.2.1, IntKind.wrap .i64 (x.2.2.2.2.2.1 + 1), ())
 else
 rec (x.1, x.2.1, x.2.2.1, x.2.2.2.1, x.2.2.2.2.1, IntKind.wrap .i64 (x.2.2.2.2.2.1 + 1), ())
 else
 rec (x.1, x.2.1, x.2.2.1, x.2.2.2.1, x.2.2.2.2.1, IntKind.wrap .i64 (x.2.2.2.2.2.1 + 1), ())
 else
 none
 else
 some ((Bool.false, ()))
 ) (100000000000000000000) (x)
def f104 (a0 : Int) (a1 : Int) (a2 : Int) (a3 : Int) (a4 : List Int) (a5 : List E11) (a6 : List (Int × Int × Int × Int)) (a7 : Int) (a8 : Int) (a9 : Int) (a10 : Int) (a11 : Int) (a12 : Int) (a13 : Bool) : Option (Bool × Unit) :=
 f104.L1 ((a11, a12, a13, a6, (↑(List.length a6) : Int), 0, ()))
def f104.ins : Shape := ⟨[(0, .agg [.int .i64, .int .i64, .int .i64, .int .i64, .row (.int .u8), .row (.prod (.int .i64) (.prod (.int .i64) (.prod (.int .i64) (.prod (.int .i64) (.prod (.int .i64) (.prod (.int .i64) (.prod (.int .i64) (.prod (.int .i64) (.prod (.int .i64) (.prod (.int .i64) (.int .i64))))))))))), .row (.prod (.int .i64) (.prod (.int .i64) (.prod (.int .i64) (.int .i64)))), .int .i64, .int .i64, .int .i64, .int .i64]), (1, .c (.int .i64)), (2, .c (.int .i64)), (3, .c (.bool))], []⟩
def f104.outs : List Shape := [⟨[(0, .c (.bool))], []⟩]
def f104.S : FnSpec := ⟨f104.ins, f104.outs, [], fun x => f104 x.1 x.2.1 x.2.2.1 x.2.2.2.1 x.2.2.2.2.1 x.2.2.2.2.2.1 x.2.2.2.2.2.2.1 x.2.2.2.2.2.2.2.1 x.2.2.2.2.2.2.2.2.1 x.2.2.2.2.2.2.2.2.2.1 x.2.2.2.2.2.2.2.2.2.2.1 x.2.2.2.2.2.2.2.2.2.2.2.1 x.2.2.2.2.2.2.2.2.2.2.2.2.1 x.2.2.2.2.2.2.2.2.2.2.2.2.2.1⟩
def f104.E (fuel : Nat) : Env := ⟨tis, [], [], [], [(3, ⟨[(1, .c (.int .i64)), (2, .c (.int .i64)), (3, .c (.bool)), (12, .c (.row (.prod (.int .i64) (.prod (.int .i64) (.prod (.int .i64) (.int .i64)))))), (13, .c (.int .i64)), (14, .c (.int .i64))], []⟩)], [], 0, [], fuel⟩
theorem f104.run : ∀ x, runFn (f104.E 100000000000000000000) Go.Proofs.Try.f104 ((Go.Proofs.Try.f104.body).getD .skip) f104.S x = f104.S.f x := by intro x; kernel_rfl
theorem f104.sound : Sound Go.Proofs.Try.prog 104 f104.S := sound_of_run (fun _ => f104.E 100000000000000000000) (by kernel_rfl) (by kernel_rfl) (by kernel_rfl) orders (fun _ => ⟨tis_ok, EqsOk.nil _, FnsOk.nil⟩) (fun _ => rfl) (by kernel_rfl) (by kernel_rfl) (fun x r h => (f104.run x).trans h)
/-! f86: adit/grid.place -/
def f86 (a0 : Int) (a1 : Int) : Option (Int × Unit) :=
 bif decide (a0 < 0) then
 some ((-1, ()))
 else
 bif decide (a0 ≥ 24) then
 some ((-1, ()))
 else
 bif decide (a1 < 0) then
 some ((-1, ()))
 else
 bif decide (a1 ≥ 16) then
 some ((-1, ()))
 else
 some ((IntKind.wrap .i64 (IntKind.wrap .i64 (a1 * 24) + a0), ()))
def f86.ins : Shape := ⟨[(0, .c (.int .i64)), (1, .c (.int .i64))], []⟩
def f86.outs : List Shape := [⟨[(0, .c (.int .i64))], []⟩]
def f86.S : FnSpec := ⟨f86.ins, f86.outs, [], fun x => f86 x.1 x.2.1⟩
def f86.E (fuel : Nat) : Env := ⟨tis, [], [], [], [], [], 0, [], fuel⟩
theorem f86.run : ∀ x, runFn (f86.E 100000000000000000000) Go.Proofs.Try.f86 ((Go.Proofs.Try.f86.body).getD .skip) f86.S x = f86.S.f x := by intro x; kernel_rfl
theorem f86.sound : Sound Go.Proofs.Try.prog 86 f86.S := sound_of_run (fun _ => f86.E 100000000000000000000) (by kernel_rfl) (by kernel_rfl) (by kernel_rfl) orders (fun _ => ⟨tis_ok, EqsOk.nil _, FnsOk.nil⟩) (fun _ => rfl) (by kernel_rfl) (by kernel_rfl) (fun x r h => (f86.run x).trans h)
/-! f85: adit/grid.kind -/
def f85 (a0 : List Int) (a1 : Int) : Option (Int × Unit) :=
 bif decide (a1 < 0) then
 some ((0, ()))
 else
 bif decide (a1 ≥ (↑(List.length a0) : Int)) then
 some ((0, ()))
 else
 bif inRange a1 (List.length a0) then
 some ((IntKind.wrap .i64 (List.getD a0 (Int.toNat a1) 0), ()))
 else
 none
def f85.ins : Shape := ⟨[(0, .c (.row (.int .u8))), (1, .c (.int .i64))], []⟩
def f85.outs : List Shape := [⟨[(0, .c (.int .i64))], []⟩]
def f85.S : FnSpec := ⟨f85.ins, f85.outs, [], fun x => f85 x.1 x.2.1⟩
def f85.E (fuel : Nat) : Env := ⟨tis, [], [], [], [], [], 0, [], fuel⟩
theorem f85.run : ∀ x, runFn (f85.E 100000000000000000000) Go.Proofs.Try.f85 ((Go.Proofs.Try.f85.body).getD .skip) f85.S x = f85.S.f x := by intro x; kernel_rfl
theorem f85.sound : Sound Go.Proofs.Try.prog 85 f85.S := sound_of_run (fun _ => f85.E 100000000000000000000) (by kernel_rfl) (by kernel_rfl) (by kernel_rfl) orders (fun _ => ⟨tis_ok, EqsOk.nil _, FnsOk.nil⟩) (fun _ => rfl) (by kernel_rfl) (by kernel_rfl) (fun x r h => (f85.run x).trans h)
/-! f74: adit/grid.At -/
def f74 (a0 : List Int) (a1 : Int) (a2 : Int) : Option (Int × Unit) :=
 Option.bind (f86 a1 a2) fun y0 =>
 Option.bind (f85 a0 y0.1) fun y1 =>
 some ((y1.1, ()))
def f74.ins : Shape := ⟨[(0, .c (.row (.int .u8))), (1, .c (.int .i64)), (2, .c (.int .i64))], []⟩
def f74.outs : List Shape := [⟨[(0, .c (.int .i64))], []⟩]
def f74.S : FnSpec := ⟨f74.ins, f74.outs, [], fun x => f74 x.1 x.2.1 x.2.2.1⟩
def f74.E (fuel : Nat) : Env := ⟨tis, [(86, f86.S), (85, f85.S)], [], [], [], [], 0, [], fuel⟩
theorem f74.run : ∀ x, runFn (f74.E 100000000000000000000) Go.Proofs.Try.f74 ((Go.Proofs.Try.f74.body).getD .skip) f74.S x = f74.S.f x := by intro x; kernel_rfl
theorem f74.sound : Sound Go.Proofs.Try.prog 74 f74.S := sound_of_run (fun _ => f74.E 100000000000000000000) (by kernel_rfl) (by kernel_rfl) (by kernel_rfl) orders (fun _ => ⟨tis_ok, EqsOk.nil _, (FnsOk.cons f86.sound (FnsOk.cons f85.sound FnsOk.nil))⟩) (fun _ => rfl) (by kernel_rfl) (by kernel_rfl) (fun x r h => (f74.run x).trans h)
/-! f106: bytes.IndexByte -/
def f106 (a0 : List Int) (a1 : Int) : Option (Int × Unit) := idxF a0 a1
def f106.S : FnSpec := ⟨idxIns, idxOuts, [], fun x => f106 x.1 x.2.1⟩
def f106.E : Env := ⟨tis, [], [], [], [], [], 0, [], 1⟩
theorem f106.sound : Sound Go.Proofs.Try.prog 106 f106.S := index_sound (fn := Go.Proofs.Try.f106) (fn2 := Go.Proofs.Try.f107) (f2 := 107) (t := 25) (u := 5) (q := 3) f106.E (by kernel_rfl) (by kernel_rfl) (by kernel_rfl) orders (by kernel_rfl) (by kernel_rfl) (by kernel_rfl) (by kernel_rfl) (by kernel_rfl) (by kernel_rfl) ⟨tis_ok, EqsOk.nil _, FnsOk.nil⟩ rfl (by intro l c A K; kernel_rfl) (by intro l c n; kernel_rfl)
end
end Go.Proofs.Ytjmbmpeflhkngaa.Run


/- Functions of the program as Lean functions: printed by a tool of this session (own work). -/
import Derived.Test.YtbekimnigknapaaProg
import Derived.Test.YtbekimnigknapaaMxY
namespace Go.Proofs.Ytbekimnigknapaa.Run
open Go Go.Proofs.Ytbekimnigknapaa.Mx
set_option autoImplicit false
set_option linter.unusedVariables false
set_option maxRecDepth 100000
set_option maxHeartbeats 4000000
noncomputable section
def ty2 : TI := ⟨.int .i64, 1, 8, [.int .i64 0], some (.int .i64)⟩
def ty3 : TI := ⟨.int .i64, 1, 8, [.int .i64 0], some (.int .i64)⟩
def ty4 : TI := ⟨.bool, 1, 1, [.bool false], some .bool⟩
def ty5 : TI := ⟨.int .u8, 1, 1, [.int .u8 0], some (.int .u8)⟩
def ty9 : TI := ⟨.str, 1, 16, [.str ⟨#[]⟩], some .str⟩
def ty23 : TI := ⟨.slice 5, 1, 24, [.nils], some (.row (.int .u8))⟩
def ty24 : TI := ⟨.slice 42, 1, 24, [.nils], some (.row (.prod (.int .i64) (.prod (.int .i64) (.prod (.int .i64) (.prod (.int .i64) (.prod (.int .i64) (.prod (.int .i64) (.prod (.int .i64) (.prod (.int .i64) (.prod (.int .i64) (.prod (.int .i64) (.int .i64))))))))))))⟩
def ty25 : TI := ⟨.slice 45, 1, 24, [.nils], some (.row (.prod (.int .i64) (.prod (.int .i64) (.prod (.int .i64) (.int .i64)))))⟩
def ty27 : TI := ⟨.struct [(0, 23), (1, 24), (2, 25)], 3, 72, [.nils, .nils, .nils], some (.prod (.row (.int .u8)) (.prod (.row (.prod (.int .i64) (.prod (.int .i64) (.prod (.int .i64) (.prod (.int .i64) (.prod (.int .i64) (.prod (.int .i64) (.prod (.int .i64) (.prod (.int .i64) (.prod (.int .i64) (.prod (.int .i64) (.int .i64)))))))))))) (.row (.prod (.int .i64) (.prod (.int .i64) (.prod (.int .i64) (.int .i64)))))))⟩
def ty32 : TI := ⟨.struct [(0, 23), (1, 24), (2, 25)], 3, 72, [.nils, .nils, .nils], some (.prod (.row (.int .u8)) (.prod (.row (.prod (.int .i64) (.prod (.int .i64) (.prod (.int .i64) (.prod (.int .i64) (.prod (.int .i64) (.prod (.int .i64) (.prod (.int .i64) (.prod (.int .i64) (.prod (.int .i64) (.prod (.int .i64) (.int .i64)))))))))))) (.row (.prod (.int .i64) (.prod (.int .i64) (.prod (.int .i64) (.int .i64)))))))⟩
def ty36 : TI := ⟨.slice 3, 1, 24, [.nils], some (.row (.int .i64))⟩
def ty39 : TI := ⟨.arr 6 3, 6, 48, [.int .i64 0, .int .i64 0, .int .i64 0, .int .i64 0, .int .i64 0, .int .i64 0], some (.prod (.int .i64) (.prod (.int .i64) (.prod (.int .i64) (.prod (.int .i64) (.prod (.int .i64) (.int .i64))))))⟩
def ty42 : TI := ⟨.struct [(0, 3), (1, 3), (2, 3), (3, 3), (4, 3), (5, 3), (6, 3), (7, 3), (8, 3), (9, 3), (10, 3)], 11, 88, [.int .i64 0, .int .i64 0, .int .i64 0, .int .i64 0, .int .i64 0, .int .i64 0, .int .i64 0, .int .i64 0, .int .i64 0, .int .i64 0, .int .i64 0], some (.prod (.int .i64) (.prod (.int .i64) (.prod (.int .i64) (.prod (.int .i64) (.prod (.int .i64) (.prod (.int .i64) (.prod (.int .i64) (.prod (.int .i64) (.prod (.int .i64) (.prod (.int .i64) (.int .i64)))))))))))⟩
def ty45 : TI := ⟨.struct [(0, 3), (1, 3), (2, 3), (3, 3)], 4, 32, [.int .i64 0, .int .i64 0, .int .i64 0, .int .i64 0], some (.prod (.int .i64) (.prod (.int .i64) (.prod (.int .i64) (.int .i64))))⟩
def ty47 : TI := ⟨.arr 4 3, 4, 32, [.int .i64 0, .int .i64 0, .int .i64 0, .int .i64 0], some (.prod (.int .i64) (.prod (.int .i64) (.prod (.int .i64) (.int .i64))))⟩
def ty71 : TI := ⟨.struct [(0, 27), (3, 2), (4, 3), (5, 36)], 6, 112, [.nils, .nils, .nils, .int .i64 0, .int .i64 0, .nils], some (.prod (.prod (.row (.int .u8)) (.prod (.row (.prod (.int .i64) (.prod (.int .i64) (.prod (.int .i64) (.prod (.int .i64) (.prod (.int .i64) (.prod (.int .i64) (.prod (.int .i64) (.prod (.int .i64) (.prod (.int .i64) (.prod (.int .i64) (.int .i64)))))))))))) (.row (.prod (.int .i64) (.prod (.int .i64) (.prod (.int .i64) (.int .i64))))))) (.prod (.int .i64) (.prod (.int .i64) (.row (.int .i64)))))⟩
def ty73 : TI := ⟨.struct [(0, 3), (1, 3)], 2, 16, [.int .i64 0, .int .i64 0], some (.prod (.int .i64) (.int .i64))⟩
def ty74 : TI := ⟨.arr 6 73, 12, 96, [.int .i64 0, .int .i64 0, .int .i64 0, .int .i64 0, .int .i64 0, .int .i64 0, .int .i64 0, .int .i64 0, .int .i64 0, .int .i64 0, .int .i64 0, .int .i64 0], some (.prod (.prod (.int .i64) (.int .i64)) (.prod (.prod (.int .i64) (.int .i64)) (.prod (.prod (.int .i64) (.int .i64)) (.prod (.prod (.int .i64) (.int .i64)) (.prod (.prod (.int .i64) (.int .i64)) (.prod (.int .i64) (.int .i64)))))))⟩
def ty81 : TI := ⟨.slice 4, 1, 24, [.nils], some (.row .bool)⟩
def ty105 : TI := ⟨.int .u64, 1, 8, [.int .u64 0], some (.int .u64)⟩
def tis : List (Nat × TI) := [(2, ty2), (3, ty3), (4, ty4), (5, ty5), (9, ty9), (23, ty23), (24, ty24), (25, ty25), (27, ty27), (32, ty32), (36, ty36), (39, ty39), (42, ty42), (45, ty45), (47, ty47), (71, ty71), (73, ty73), (74, ty74), (81, ty81), (105, ty105)]
theorem ty2_ok : TIok Go.Proofs.Try.prog 2 ty2 := ⟨by kernel_rfl, by kernel_rfl, by kernel_rfl, by kernel_rfl, by kernel_rfl, by kernel_rfl, by kernel_rfl, by kernel_rfl⟩
theorem ty3_ok : TIok Go.Proofs.Try.prog 3 ty3 := ⟨by kernel_rfl, by kernel_rfl, by kernel_rfl, by kernel_rfl, by kernel_rfl, by kernel_rfl, by kernel_rfl, by kernel_rfl⟩
theorem ty4_ok : TIok Go.Proofs.Try.prog 4 ty4 := ⟨by kernel_rfl, by kernel_rfl, by kernel_rfl, by kernel_rfl, by kernel_rfl, by kernel_rfl, by kernel_rfl, by kernel_rfl⟩
theorem ty5_ok : TIok Go.Proofs.Try.prog 5 ty5 := ⟨by kernel_rfl, by kernel_rfl, by kernel_rfl, by kernel_rfl, by kernel_rfl, by kernel_rfl, by kernel_rfl, by kernel_rfl⟩
theorem ty9_ok : TIok Go.Proofs.Try.prog 9 ty9 := ⟨by kernel_rfl, by kernel_rfl, by kernel_rfl, by kernel_rfl, by kernel_rfl, by kernel_rfl, by kernel_rfl, by kernel_rfl⟩
theorem ty23_ok : TIok Go.Proofs.Try.prog 23 ty23 := ⟨by kernel_rfl, by kernel_rfl, by kernel_rfl, by kernel_rfl, by kernel_rfl, by kernel_rfl, by kernel_rfl, by kernel_rfl⟩
theorem ty24_ok : TIok Go.Proofs.Try.prog 24 ty24 := ⟨by kernel_rfl, by kernel_rfl, by kernel_rfl, by kernel_rfl, by kernel_rfl, by kernel_rfl, by kernel_rfl, by kernel_rfl⟩
theorem ty25_ok : TIok Go.Proofs.Try.prog 25 ty25 := ⟨by kernel_rfl, by kernel_rfl, by kernel_rfl, by kernel_rfl, by kernel_rfl, by kernel_rfl, by kernel_rfl, by kernel_rfl⟩
theorem ty27_ok : TIok Go.Proofs.Try.prog 27 ty27 := ⟨by kernel_rfl, by kernel_rfl, by kernel_rfl, by kernel_rfl, by kernel_rfl, by kernel_rfl, by kernel_rfl, by kernel_rfl⟩
theorem ty32_ok : TIok Go.Proofs.Try.prog 32 ty32 := ⟨by kernel_rfl, by kernel_rfl, by kernel_rfl, by kernel_rfl, by kernel_rfl, by kernel_rfl, by kernel_rfl, by kernel_rfl⟩
theorem ty36_ok : TIok Go.Proofs.Try.prog 36 ty36 := ⟨by kernel_rfl, by kernel_rfl, by kernel_rfl, by kernel_rfl, by kernel_rfl, by kernel_rfl, by kernel_rfl, by kernel_rfl⟩
theorem ty39_ok : TIok Go.Proofs.Try.prog 39 ty39 := ⟨by kernel_rfl, by kernel_rfl, by kernel_rfl, by kernel_rfl, by kernel_rfl, by kernel_rfl, by kernel_rfl, by kernel_rfl⟩
theorem ty42_ok : TIok Go.Proofs.Try.prog 42 ty42 := ⟨by kernel_rfl, by kernel_rfl, by kernel_rfl, by kernel_rfl, by kernel_rfl, by kernel_rfl, by kernel_rfl, by kernel_rfl⟩
theorem ty45_ok : TIok Go.Proofs.Try.prog 45 ty45 := ⟨by kernel_rfl, by kernel_rfl, by kernel_rfl, by kernel_rfl, by kernel_rfl, by kernel_rfl, by kernel_rfl, by kernel_rfl⟩
theorem ty47_ok : TIok Go.Proofs.Try.prog 47 ty47 := ⟨by kernel_rfl, by kernel_rfl, by kernel_rfl, by kernel_rfl, by kernel_rfl, by kernel_rfl, by kernel_rfl, by kernel_rfl⟩
theorem ty71_ok : TIok Go.Proofs.Try.prog 71 ty71 := ⟨by kernel_rfl, by kernel_rfl, by kernel_rfl, by kernel_rfl, by kernel_rfl, by kernel_rfl, by kernel_rfl, by kernel_rfl⟩
theorem ty73_ok : TIok Go.Proofs.Try.prog 73 ty73 := ⟨by kernel_rfl, by kernel_rfl, by kernel_rfl, by kernel_rfl, by kernel_rfl, by kernel_rfl, by kernel_rfl, by kernel_rfl⟩
theorem ty74_ok : TIok Go.Proofs.Try.prog 74 ty74 := ⟨by kernel_rfl, by kernel_rfl, by kernel_rfl, by kernel_rfl, by kernel_rfl, by kernel_rfl, by kernel_rfl, by kernel_rfl⟩
theorem ty81_ok : TIok Go.Proofs.Try.prog 81 ty81 := ⟨by kernel_rfl, by kernel_rfl, by kernel_rfl, by kernel_rfl, by kernel_rfl, by kernel_rfl, by kernel_rfl, by kernel_rfl⟩
theorem ty105_ok : TIok Go.Proofs.Try.prog 105 ty105 := ⟨by kernel_rfl, by kernel_rfl, by kernel_rfl, by kernel_rfl, by kernel_rfl, by kernel_rfl, by kernel_rfl, by kernel_rfl⟩
theorem tis_ok : TIs Go.Proofs.Try.prog tis := (TIs.cons ty2_ok (TIs.cons ty3_ok (TIs.cons ty4_ok (TIs.cons ty5_ok (TIs.cons ty9_ok (TIs.cons ty23_ok (TIs.cons ty24_ok (TIs.cons ty25_ok (TIs.cons ty27_ok (TIs.cons ty32_ok (TIs.cons ty36_ok (TIs.cons ty39_ok (TIs.cons ty42_ok (TIs.cons ty45_ok (TIs.cons ty47_ok (TIs.cons ty71_ok (TIs.cons ty73_ok (TIs.cons ty74_ok (TIs.cons ty81_ok (TIs.cons ty105_ok (TIs.nil _)))))))))))))))))))))
theorem orders : Go.Proofs.Try.prog.follows .mixedOrders = true := by kernel_rfl
theorem eq42 : EqOk Go.Proofs.Try.prog 42 [.int .i64, .int .i64, .int .i64, .int .i64, .int .i64, .int .i64, .int .i64, .int .i64, .int .i64, .int .i64, .int .i64] := eqok_of (by kernel_rfl) (by kernel_rfl) (by kernel_rfl) (by kernel_rfl)
theorem eq45 : EqOk Go.Proofs.Try.prog 45 [.int .i64, .int .i64, .int .i64, .int .i64] := eqok_of (by kernel_rfl) (by kernel_rfl) (by kernel_rfl) (by kernel_rfl)
theorem eq73 : EqOk Go.Proofs.Try.prog 73 [.int .i64, .int .i64] := eqok_of (by kernel_rfl) (by kernel_rfl) (by kernel_rfl) (by kernel_rfl)
/-! f82: adit/dice.mix -/
def f82 (a0 : Int) : Option (Int × Unit) :=
 some ((Go.IntKind.wrap Go.IntKind.u64 (↑(BitVec.toNat (BitVec.ofInt (Go.IntKind.bits Go.IntKind.u64) (Go.IntKind.wrap Go.IntKind.u64 (Go.IntKind.wrap Go.IntKind.u64 (↑(BitVec.toNat (BitVec.ofInt (Go.IntKind.bits Go.IntKind.u64) (Go.IntKind.wrap Go.IntKind.u64 (Go.IntKind.wrap Go.IntKind.u64 (↑(BitVec.toNat (BitVec.ofInt (Go.IntKind.bits Go.IntKind.u64) a0 ^^^ BitVec.ofInt (Go.IntKind.bits Go.IntKind.u64) (Int.fdiv a0 (2 ^ Min.min 30 (Go.IntKind.bits Go.IntKind.u64))))) : Int) * 13787848793156543929)) ^^^ BitVec.ofInt (Go.IntKind.bits Go.IntKind.u64) (Int.fdiv (Go.IntKind.wrap Go.IntKind.u64 (Go.IntKind.wrap Go.IntKind.u64 (↑(BitVec.toNat (BitVec.ofInt (Go.IntKind.bits Go.IntKind.u64) a0 ^^^ BitVec.ofInt (Go.IntKind.bits Go.IntKind.u64) (Int.fdiv a0 (2 ^ Min.min 30 (Go.IntKind.bits Go.IntKind.u64))))) : Int) * 13787848793156543929)) (2 ^ Min.min 27 (Go.IntKind.bits Go.IntKind.u64))))) : Int) * 10723151780598845931)) ^^^ BitVec.ofInt (Go.IntKind.bits Go.IntKind.u64) (Int.fdiv (Go.IntKind.wrap Go.IntKind.u64 (Go.IntKind.wrap Go.IntKind.u64 (↑(BitVec.toNat (BitVec.ofInt (Go.IntKind.bits Go.IntKind.u64) (Go.IntKind.wrap Go.IntKind.u64 (Go.IntKind.wrap Go.IntKind.u64 (↑(BitVec.toNat (BitVec.ofInt (Go.IntKind.bits Go.IntKind.u64) a0 ^^^ BitVec.ofInt (Go.IntKind.bits Go.IntKind.u64) (Int.fdiv a0 (2 ^ Min.min 30 (Go.IntKind.bits Go.IntKind.u64))))) : Int) * 13787848793156543929)) ^^^ BitVec.ofInt (Go.IntKind.bits Go.IntKind.u64) (Int.fdiv (Go.IntKind.wrap Go.IntKind.u64 (Go.IntKind.wrap Go.IntKind.u64 (↑(BitVec.toNat (BitVec.ofInt (Go.IntKind.bits Go.IntKind.u64) a0 ^^^ BitVec.ofInt (Go.IntKind.bits Go.IntKind.u64) (Int.fdiv a0 (2 ^ Min.min 30 (Go.IntKind.bits Go.IntKind.u64))))) : Int) * 13787848793156543929)) (2 ^ Min.min 27 (Go.IntKind.bits Go.IntKind.u64))))) : Int) * 10723151780598845931)) (2 ^ Min.min 31 (Go.IntKind.bits Go.IntKind.u64))))) : Int), ()))
def f82.ins : Shape := ⟨[(0, .c (.int .u64))], []⟩
def f82.outs : List Shape := [⟨[(0, .c (.int .u64))], []⟩]
def f82.S : FnSpec := ⟨f82.ins, f82.outs, [], fun x => f82 x.1⟩
def f82.E (fuel : Nat) : Env := ⟨tis, [], [], [], [], [], 0, [], fuel⟩
theorem f82.run : ∀ x, runFn (f82.E 100000000000000000000) Go.Proofs.Try.f82 ((Go.Proofs.Try.f82.body).getD .skip) f82.S x = f82.S.f x := by intro x; kernel_rfl
theorem f82.sound : Sound Go.Proofs.Try.prog 82 f82.S := sound_of_run (fun _ => f82.E 100000000000000000000) (by kernel_rfl) (by kernel_rfl) (by kernel_rfl) orders (fun _ => ⟨tis_ok, EqsOk.nil _, FnsOk.nil⟩) (fun _ => rfl) (by kernel_rfl) (by kernel_rfl) (fun x r h => (f82.run x).trans h)
/-! f75: adit/dice.Mix -/
def f75.L1 (x : Int × List Int × Int × Int × Unit) : Option (Int × Unit) :=
 it (X := Int × List Int × Int × Int × Unit) (fun rec x =>
 bif Decidable.decide (x.snd.snd.snd.fst < x.snd.snd.fst) then
  bif inRange x.snd.snd.snd.fst (List.length x.snd.fst) then
   Option.bind (f82 (Go.IntKind.wrap Go.IntKind.u64 (Go.IntKind.wrap Go.IntKind.u64 (↑(BitVec.toNat (BitVec.ofInt (Go.IntKind.bits Go.IntKind.u64) x.fst ^^^ BitVec.ofInt (Go.IntKind.bits Go.IntKind.u64) (Go.IntKind.wrap Go.IntKind.u64 (List.getD x.snd.fst (Int.toNat x.snd.snd.snd.fst) 0)))) : Int) + 11400714819323198485))) fun y0 =>
    rec (y0.fst, x.snd.fst, x.snd.snd.fst, Go.IntKind.wrap Go.IntKind.i64 (x.snd.snd.snd.fst + 1), ())
  else
   none
 else
  some ((x.fst, ()))
 ) (100000000000000000000) (x)
def f75 (a0 : Int) (a1 : List Int) : Option (Int × Unit) :=
 Option.bind (f82 (Go.IntKind.wrap Go.IntKind.u64 (Go.IntKind.wrap Go.IntKind.u64 a0 + 11400714819323198485))) fun y0 =>
  f75.L1 ((y0.fst, a1, (↑(List.length a1) : Int), 0, ()))
def f75.ins : Shape := ⟨[(0, .c (.int .i64)), (1, .c (.row (.int .i64)))], []⟩
def f75.outs : List Shape := [⟨[(0, .c (.int .u64))], []⟩]
def f75.S : FnSpec := ⟨f75.ins, f75.outs, [], fun x => f75 x.1 x.2.1⟩
def f75.E (fuel : Nat) : Env := ⟨tis, [(82, f82.S)], [], [], [(4, ⟨[(5, .c (.int .u64)), (12, .c (.row (.int .i64))), (13, .c (.int .i64)), (14, .c (.int .i64))], []⟩)], [], 0, [], fuel⟩
theorem f75.run : ∀ x, runFn (f75.E 100000000000000000000) Go.Proofs.Try.f75 ((Go.Proofs.Try.f75.body).getD .skip) f75.S x = f75.S.f x := by intro x; kernel_rfl
theorem f75.sound : Sound Go.Proofs.Try.prog 75 f75.S := sound_of_run (fun _ => f75.E 100000000000000000000) (by kernel_rfl) (by kernel_rfl) (by kernel_rfl) orders (fun _ => ⟨tis_ok, EqsOk.nil _, (FnsOk.cons f82.sound FnsOk.nil)⟩) (fun _ => rfl) (by kernel_rfl) (by kernel_rfl) (fun x r h => (f75.run x).trans h)
/-! f65: adit/dice.Die -/
def f65 (a0 : Int) (a1 : Int) (a2 : List Int) : Option (Int × Unit) :=
 bif Decidable.decide (a0 < 1) then
  some ((0, ()))
 else
  Option.bind (f75 a1 a2) fun y0 =>
   bif Decidable.decide (Go.IntKind.wrap Go.IntKind.u64 a0 = 0) then
    none
   else
    some ((Go.IntKind.wrap Go.IntKind.i64 (Int.tmod y0.fst (Go.IntKind.wrap Go.IntKind.u64 a0)), ()))
def f65.ins : Shape := ⟨[(0, .c (.int .i64)), (1, .c (.int .i64)), (2, .c (.row (.int .i64)))], []⟩
def f65.outs : List Shape := [⟨[(0, .c (.int .i64))], []⟩]
def f65.S : FnSpec := ⟨f65.ins, f65.outs, [], fun x => f65 x.1 x.2.1 x.2.2.1⟩
def f65.E (fuel : Nat) : Env := ⟨tis, [(75, f75.S)], [], [], [], [], 0, [], fuel⟩
theorem f65.run : ∀ x, runFn (f65.E 100000000000000000000) Go.Proofs.Try.f65 ((Go.Proofs.Try.f65.body).getD .skip) f65.S x = f65.S.f x := by intro x; kernel_rfl
theorem f65.sound : Sound Go.Proofs.Try.prog 65 f65.S := sound_of_run (fun _ => f65.E 100000000000000000000) (by kernel_rfl) (by kernel_rfl) (by kernel_rfl) orders (fun _ => ⟨tis_ok, EqsOk.nil _, (FnsOk.cons f75.sound FnsOk.nil)⟩) (fun _ => rfl) (by kernel_rfl) (by kernel_rfl) (fun x r h => (f65.run x).trans h)
/-! f43: (*adit/gen.maker).die -/
def f43 (a0 : (List Int × List (Int × Int × Int × Int × Int × Int × Int × Int × Int × Int × Int) × List (Int × Int × Int × Int)) × Int × Int × List Int) (a1 : Int) (a2 : Int) (a3 : Int) : Option (Int × Unit) :=
 Option.bind (f65 a3 a0.snd.fst [a0.snd.snd.fst, a1, a2]) fun y0 =>
  some ((y0.fst, ()))
def f43.ins : Shape := ⟨[(0, .c (.bptr (.prod (.prod (.row (.int .u8)) (.prod (.row (.prod (.int .i64) (.prod (.int .i64) (.prod (.int .i64) (.prod (.int .i64) (.prod (.int .i64) (.prod (.int .i64) (.prod (.int .i64) (.prod (.int .i64) (.prod (.int .i64) (.prod (.int .i64) (.int .i64)))))))))))) (.row (.prod (.int .i64) (.prod (.int .i64) (.prod (.int .i64) (.int .i64))))))) (.prod (.int .i64) (.prod (.int .i64) (.row (.int .i64))))))), (1, .c (.int .i64)), (2, .c (.int .i64)), (3, .c (.int .i64))], []⟩
def f43.outs : List Shape := [⟨[(0, .c (.int .i64))], []⟩]
def f43.S : FnSpec := ⟨f43.ins, f43.outs, [], fun x => f43 x.1 x.2.1 x.2.2.1 x.2.2.2.1⟩
def f43.E (fuel : Nat) : Env := ⟨tis, [(65, f65.S)], [], [], [], [], 0, [], fuel⟩
theorem f43.run : ∀ x, runFn (f43.E 100000000000000000000) Go.Proofs.Try.f43 ((Go.Proofs.Try.f43.body).getD .skip) f43.S x = f43.S.f x := by intro x; kernel_rfl
theorem f43.sound : Sound Go.Proofs.Try.prog 43 f43.S := sound_of_run (fun _ => f43.E 100000000000000000000) (by kernel_rfl) (by kernel_rfl) (by kernel_rfl) orders (fun _ => ⟨tis_ok, EqsOk.nil _, (FnsOk.cons f65.sound FnsOk.nil)⟩) (fun _ => rfl) (by kernel_rfl) (by kernel_rfl) (fun x r h => (f43.run x).trans h)
/-! f63: (adit/gen.spot).cell -/
def f63 (a0 : Int) (a1 : Int) : Option (Int × Unit) :=
 some ((Go.IntKind.wrap Go.IntKind.i64 (Go.IntKind.wrap Go.IntKind.i64 (a1 * 24) + a0), ()))
def f63.ins : Shape := ⟨[(0, .agg [.int .i64, .int .i64])], []⟩
def f63.outs : List Shape := [⟨[(0, .c (.int .i64))], []⟩]
def f63.S : FnSpec := ⟨f63.ins, f63.outs, [], fun x => f63 x.1 x.2.1⟩
def f63.E (fuel : Nat) : Env := ⟨tis, [], [], [], [], [], 0, [], fuel⟩
theorem f63.run : ∀ x, runFn (f63.E 100000000000000000000) Go.Proofs.Try.f63 ((Go.Proofs.Try.f63.body).getD .skip) f63.S x = f63.S.f x := by intro x; kernel_rfl
theorem f63.sound : Sound Go.Proofs.Try.prog 63 f63.S := sound_of_run (fun _ => f63.E 100000000000000000000) (by kernel_rfl) (by kernel_rfl) (by kernel_rfl) orders (fun _ => ⟨tis_ok, EqsOk.nil _, FnsOk.nil⟩) (fun _ => rfl) (by kernel_rfl) (by kernel_rfl) (fun x r h => (f63.run x).trans h)
/-! f41: (*adit/gen.maker).room -/
def f41.L1 (x : Int × Int × Int × Int × Int × Int × Int × Int × List Int × Int × Int × Unit) : Option (Int × Int × Int × Int × List Int × Unit) :=
 it (X := Int × Int × Int × Int × Int × Int × Int × Int × List Int × Int × Int × Unit) (fun rec x =>
 bif Decidable.decide (x.snd.snd.snd.snd.snd.fst < x.snd.snd.snd.snd.fst) then
  bif Decidable.decide (x.fst = 0) then
   none
  else
   bif Decidable.decide (x.fst = 0) then
    none
   else
    Option.bind (f63 (Go.IntKind.wrap Go.IntKind.i64 (x.snd.snd.fst + Int.tmod x.snd.snd.snd.snd.snd.fst x.fst)) (Go.IntKind.wrap Go.IntKind.i64 (x.snd.snd.snd.fst + Go.IntKind.wrap Go.IntKind.i64 (Int.tdiv x.snd.snd.snd.snd.snd.fst x.fst)))) fun y0 =>
     bif inRange y0.fst (List.length x.snd.snd.snd.snd.snd.snd.snd.snd.fst) then
      rec (x.fst, x.snd.fst, x.snd.snd.fst, x.snd.snd.snd.fst, x.snd.snd.snd.snd.fst, Go.IntKind.wrap Go.IntKind.i64 (x.snd.snd.snd.snd.snd.fst + 1), x.snd.snd.snd.snd.snd.snd.fst, x.snd.snd.snd.snd.snd.snd.snd.fst, List.set x.snd.snd.snd.snd.snd.snd.snd.snd.fst (Int.toNat y0.fst) 1, x.snd.snd.snd.snd.snd.snd.snd.snd.snd.fst, x.snd.snd.snd.snd.snd.snd.snd.snd.snd.snd.fst, ())
     else
      none
 else
  some ((Go.IntKind.wrap Go.IntKind.i64 (x.snd.snd.fst + Go.IntKind.wrap Go.IntKind.i64 (Int.tdiv x.fst 2)), Go.IntKind.wrap Go.IntKind.i64 (x.snd.snd.snd.fst + Go.IntKind.wrap Go.IntKind.i64 (Int.tdiv x.snd.fst 2)), x.snd.snd.snd.snd.snd.snd.fst, x.snd.snd.snd.snd.snd.snd.snd.fst, x.snd.snd.snd.snd.snd.snd.snd.snd.fst, ()))
 ) (100000000000000000000) (x)
def f41 (a0 : Int) (a1 : Int) (a2 : Int) (a3 : List Int) : Option (Int × Int × Int × Int × List Int × Unit) :=
 Option.bind (f43 ((a3, [], []), a1, a2, []) a0 0 5) fun y0 =>
  Option.bind (f43 ((a3, [], []), a1, a2, []) a0 1 4) fun y1 =>
   Option.bind (f43 ((a3, [], []), a1, a2, []) a0 2 (Go.IntKind.wrap Go.IntKind.i64 (23 - Go.IntKind.wrap Go.IntKind.i64 (3 + y0.fst)))) fun y2 =>
    Option.bind (f43 ((a3, [], []), a1, a2, []) a0 3 (Go.IntKind.wrap Go.IntKind.i64 (15 - Go.IntKind.wrap Go.IntKind.i64 (2 + y1.fst)))) fun y3 =>
     f41.L1 ((Go.IntKind.wrap Go.IntKind.i64 (3 + y0.fst), Go.IntKind.wrap Go.IntKind.i64 (2 + y1.fst), Go.IntKind.wrap Go.IntKind.i64 (1 + y2.fst), Go.IntKind.wrap Go.IntKind.i64 (1 + y3.fst), Go.IntKind.wrap Go.IntKind.i64 (Go.IntKind.wrap Go.IntKind.i64 (3 + y0.fst) * Go.IntKind.wrap Go.IntKind.i64 (2 + y1.fst)), 0, a1, a2, a3, 0, 0, ()))
def f41.ins : Shape := ⟨[(0, .c (.ptr 0 0)), (1, .c (.int .i64))], [(0, .box [.own 1, .nils, .nils, .int .i64, .int .i64, .nils]), (1, .arr (.int .u8))]⟩
def f41.outs : List Shape := [⟨[(0, .agg [.int .i64, .int .i64])], [(0, .box [.own 1, .nils, .nils, .int .i64, .int .i64, .nils]), (1, .arr (.int .u8))]⟩]
def f41.S : FnSpec := ⟨f41.ins, f41.outs, [0, 1], fun x => f41 x.1 x.2.1 x.2.2.1 x.2.2.2.1⟩
def f41.E (fuel : Nat) : Env := ⟨tis, [(43, f43.S), (63, f63.S)], [], [], [(5, ⟨[(0, .c (.ptr 0 0)), (4, .c (.ptr 2 0)), (5, .c (.int .i64)), (6, .c (.int .i64)), (7, .c (.int .i64)), (8, .c (.int .i64)), (32, .c (.int .i64)), (33, .c (.int .i64))], [(0, .box [.own 1, .nils, .nils, .int .i64, .int .i64, .nils]), (1, .arr (.int .u8)), (2, .box [.int .i64, .int .i64])]⟩)], [], 2, [0, 1], fuel⟩
theorem f41.run : ∀ x, runFn (f41.E 100000000000000000000) Go.Proofs.Try.f41 ((Go.Proofs.Try.f41.body).getD .skip) f41.S x = f41.S.f x := by intro x; kernel_rfl
theorem f41.sound : Sound Go.Proofs.Try.prog 41 f41.S := sound_of_run (fun _ => f41.E 100000000000000000000) (by kernel_rfl) (by kernel_rfl) (by kernel_rfl) orders (fun _ => ⟨tis_ok, EqsOk.nil _, (FnsOk.cons f43.sound (FnsOk.cons f63.sound FnsOk.nil))⟩) (fun _ => rfl) (by kernel_rfl) (by kernel_rfl) (fun x r h => (f41.run x).trans h)
/-! f64: adit/gen.toward -/
def f64 (a0 : Int) (a1 : Int) : Option (Int × Unit) :=
 bif Decidable.decide (a0 < a1) then
  some ((Go.IntKind.wrap Go.IntKind.i64 (a0 + 1), ()))
 else
  bif Decidable.decide (a0 > a1) then
   some ((Go.IntKind.wrap Go.IntKind.i64 (a0 - 1), ()))
  else
   some ((a0, ()))
def f64.ins : Shape := ⟨[(0, .c (.int .i64)), (1, .c (.int .i64))], []⟩
def f64.outs : List Shape := [⟨[(0, .c (.int .i64))], []⟩]
def f64.S : FnSpec := ⟨f64.ins, f64.outs, [], fun x => f64 x.1 x.2.1⟩
def f64.E (fuel : Nat) : Env := ⟨tis, [], [], [], [], [], 0, [], fuel⟩
theorem f64.run : ∀ x, runFn (f64.E 100000000000000000000) Go.Proofs.Try.f64 ((Go.Proofs.Try.f64.body).getD .skip) f64.S x = f64.S.f x := by intro x; kernel_rfl
theorem f64.sound : Sound Go.Proofs.Try.prog 64 f64.S := sound_of_run (fun _ => f64.E 100000000000000000000) (by kernel_rfl) (by kernel_rfl) (by kernel_rfl) orders (fun _ => ⟨tis_ok, EqsOk.nil _, FnsOk.nil⟩) (fun _ => rfl) (by kernel_rfl) (by kernel_rfl) (fun x r h => (f64.run x).trans h)
/-! f42: (*adit/gen.maker).dig -/
def f42.L1 (x : Bool × Bool × Int × Int × List Int × Int × Int × Int × Int × Unit) : Option (Int × Int × List Int × Unit) :=
 it (X := Bool × Bool × Int × Int × List Int × Int × Int × Int × Int × Unit) (fun rec x =>
 Option.bind (α := Bool × Bool × Int × Int × List Int × Int × Int × Int × Int × Unit ⊕ Int × Int × List Int × Unit) (
  Option.bind (f63 x.snd.snd.snd.snd.snd.fst x.snd.snd.snd.snd.snd.snd.fst) fun y0 =>
   bif inRange y0.fst (List.length x.snd.snd.snd.snd.fst) then
    bif List.getD x.snd.snd.snd.snd.fst (Int.toNat y0.fst) 0 == 0 then
     bif !x.snd.fst then
      some (Sum.inl (x.fst, Bool.true, x.snd.snd.fst, x.snd.snd.snd.fst, List.set (List.set x.snd.snd.snd.snd.fst (Int.toNat y0.fst) 1) (Int.toNat y0.fst) 2, x.snd.snd.snd.snd.snd.fst, x.snd.snd.snd.snd.snd.snd.fst, x.snd.snd.snd.snd.snd.snd.snd.fst, x.snd.snd.snd.snd.snd.snd.snd.snd.fst, ()))
     else
      some (Sum.inl (x.fst, Bool.true, x.snd.snd.fst, x.snd.snd.snd.fst, List.set x.snd.snd.snd.snd.fst (Int.toNat y0.fst) 1, x.snd.snd.snd.snd.snd.fst, x.snd.snd.snd.snd.snd.snd.fst, x.snd.snd.snd.snd.snd.snd.snd.fst, x.snd.snd.snd.snd.snd.snd.snd.snd.fst, ()))
    else
     some (Sum.inl (x.fst, x.snd.fst, x.snd.snd.fst, x.snd.snd.snd.fst, x.snd.snd.snd.snd.fst, x.snd.snd.snd.snd.snd.fst, x.snd.snd.snd.snd.snd.snd.fst, x.snd.snd.snd.snd.snd.snd.snd.fst, x.snd.snd.snd.snd.snd.snd.snd.snd.fst, ()))
   else
    none
 ) fun y1 =>
  Sum.elim (fun y2 =>
   bif y2.snd.snd.snd.snd.snd.fst == y2.snd.snd.snd.snd.snd.snd.snd.fst && (y2.snd.snd.snd.snd.snd.snd.fst == y2.snd.snd.snd.snd.snd.snd.snd.snd.fst && Bool.true) then
    some ((y2.snd.snd.fst, y2.snd.snd.snd.fst, y2.snd.snd.snd.snd.fst, ()))
   else
    bif y2.fst then
     bif y2.snd.snd.snd.snd.snd.fst != y2.snd.snd.snd.snd.snd.snd.snd.fst then
      Option.bind (f64 y2.snd.snd.snd.snd.snd.fst y2.snd.snd.snd.snd.snd.snd.snd.fst) fun y3 =>
       rec (y2.fst, y2.snd.fst, y2.snd.snd.fst, y2.snd.snd.snd.fst, y2.snd.snd.snd.snd.fst, y3.fst, y2.snd.snd.snd.snd.snd.snd.fst, y2.snd.snd.snd.snd.snd.snd.snd.fst, y2.snd.snd.snd.snd.snd.snd.snd.snd.fst, ())
     else
      bif y2.snd.snd.snd.snd.snd.snd.fst == y2.snd.snd.snd.snd.snd.snd.snd.snd.fst then
       Option.bind (f64 y2.snd.snd.snd.snd.snd.fst y2.snd.snd.snd.snd.snd.snd.snd.fst) fun y4 =>
        rec (y2.fst, y2.snd.fst, y2.snd.snd.fst, y2.snd.snd.snd.fst, y2.snd.snd.snd.snd.fst, y4.fst, y2.snd.snd.snd.snd.snd.snd.fst, y2.snd.snd.snd.snd.snd.snd.snd.fst, y2.snd.snd.snd.snd.snd.snd.snd.snd.fst, ())
      else
       Option.bind (f64 y2.snd.snd.snd.snd.snd.snd.fst y2.snd.snd.snd.snd.snd.snd.snd.snd.fst) fun y5 =>
        rec (y2.fst, y2.snd.fst, y2.snd.snd.fst, y2.snd.snd.snd.fst, y2.snd.snd.snd.snd.fst, y2.snd.snd.snd.snd.snd.fst, y5.fst, y2.snd.snd.snd.snd.snd.snd.snd.fst, y2.snd.snd.snd.snd.snd.snd.snd.snd.fst, ())
    else
     bif y2.snd.snd.snd.snd.snd.snd.fst == y2.snd.snd.snd.snd.snd.snd.snd.snd.fst then
      Option.bind (f64 y2.snd.snd.snd.snd.snd.fst y2.snd.snd.snd.snd.snd.snd.snd.fst) fun y6 =>
       rec (y2.fst, y2.snd.fst, y2.snd.snd.fst, y2.snd.snd.snd.fst, y2.snd.snd.snd.snd.fst, y6.fst, y2.snd.snd.snd.snd.snd.snd.fst, y2.snd.snd.snd.snd.snd.snd.snd.fst, y2.snd.snd.snd.snd.snd.snd.snd.snd.fst, ())
     else
      Option.bind (f64 y2.snd.snd.snd.snd.snd.snd.fst y2.snd.snd.snd.snd.snd.snd.snd.snd.fst) fun y7 =>
       rec (y2.fst, y2.snd.fst, y2.snd.snd.fst, y2.snd.snd.snd.fst, y2.snd.snd.snd.snd.fst, y2.snd.snd.snd.snd.snd.fst, y7.fst, y2.snd.snd.snd.snd.snd.snd.snd.fst, y2.snd.snd.snd.snd.snd.snd.snd.snd.fst, ())
  ) (fun z8 =>
   some (z8)
  ) (y1)
 ) (100000000000000000000) (x)
def f42 (a0 : Int) (a1 : Int) (a2 : Int) (a3 : Int) (a4 : Bool) (a5 : Int) (a6 : Int) (a7 : List Int) : Option (Int × Int × List Int × Unit) :=
 Option.bind (α := Bool × Bool × Int × Int × List Int × Int × Int × Int × Int × Unit ⊕ Int × Int × List Int × Unit) (
  Option.bind (f63 a0 a1) fun y63 =>
   bif inRange y63.fst (List.length a7) then
    bif List.getD a7 (Int.toNat y63.fst) 0 == 0 then
     some (Sum.inl (a4, Bool.true, a5, a6, List.set (List.set a7 (Int.toNat y63.fst) 1) (Int.toNat y63.fst) 2, a0, a1, a2, a3, ()))
    else
     some (Sum.inl (a4, Bool.false, a5, a6, a7, a0, a1, a2, a3, ()))
   else
    none
 ) fun y0 =>
  Sum.elim (fun y1 =>
   bif y1.snd.snd.snd.snd.snd.fst == y1.snd.snd.snd.snd.snd.snd.snd.fst && (y1.snd.snd.snd.snd.snd.snd.fst == y1.snd.snd.snd.snd.snd.snd.snd.snd.fst && Bool.true) then
    some ((y1.snd.snd.fst, y1.snd.snd.snd.fst, y1.snd.snd.snd.snd.fst, ()))
   else
    bif y1.fst then
     bif y1.snd.snd.snd.snd.snd.fst != y1.snd.snd.snd.snd.snd.snd.snd.fst then
      Option.bind (f64 y1.snd.snd.snd.snd.snd.fst y1.snd.snd.snd.snd.snd.snd.snd.fst) fun y3 =>
       f42.L1 ((y1.fst, y1.snd.fst, y1.snd.snd.fst, y1.snd.snd.snd.fst, y1.snd.snd.snd.snd.fst, y3.fst, y1.snd.snd.snd.snd.snd.snd.fst, y1.snd.snd.snd.snd.snd.snd.snd.fst, y1.snd.snd.snd.snd.snd.snd.snd.snd.fst, ()))
     else
      bif y1.snd.snd.snd.snd.snd.snd.fst == y1.snd.snd.snd.snd.snd.snd.snd.snd.fst then
       Option.bind (f64 y1.snd.snd.snd.snd.snd.fst y1.snd.snd.snd.snd.snd.snd.snd.fst) fun y15 =>
        f42.L1 ((y1.fst, y1.snd.fst, y1.snd.snd.fst, y1.snd.snd.snd.fst, y1.snd.snd.snd.snd.fst, y15.fst, y1.snd.snd.snd.snd.snd.snd.fst, y1.snd.snd.snd.snd.snd.snd.snd.fst, y1.snd.snd.snd.snd.snd.snd.snd.snd.fst, ()))
      else
       Option.bind (f64 y1.snd.snd.snd.snd.snd.snd.fst y1.snd.snd.snd.snd.snd.snd.snd.snd.fst) fun y27 =>
        f42.L1 ((y1.fst, y1.snd.fst, y1.snd.snd.fst, y1.snd.snd.snd.fst, y1.snd.snd.snd.snd.fst, y1.snd.snd.snd.snd.snd.fst, y27.fst, y1.snd.snd.snd.snd.snd.snd.snd.fst, y1.snd.snd.snd.snd.snd.snd.snd.snd.fst, ()))
    else
     bif y1.snd.snd.snd.snd.snd.snd.fst == y1.snd.snd.snd.snd.snd.snd.snd.snd.fst then
      Option.bind (f64 y1.snd.snd.snd.snd.snd.fst y1.snd.snd.snd.snd.snd.snd.snd.fst) fun y39 =>
       f42.L1 ((y1.fst, y1.snd.fst, y1.snd.snd.fst, y1.snd.snd.snd.fst, y1.snd.snd.snd.snd.fst, y39.fst, y1.snd.snd.snd.snd.snd.snd.fst, y1.snd.snd.snd.snd.snd.snd.snd.fst, y1.snd.snd.snd.snd.snd.snd.snd.snd.fst, ()))
     else
      Option.bind (f64 y1.snd.snd.snd.snd.snd.snd.fst y1.snd.snd.snd.snd.snd.snd.snd.snd.fst) fun y51 =>
       f42.L1 ((y1.fst, y1.snd.fst, y1.snd.snd.fst, y1.snd.snd.snd.fst, y1.snd.snd.snd.snd.fst, y1.snd.snd.snd.snd.snd.fst, y51.fst, y1.snd.snd.snd.snd.snd.snd.snd.fst, y1.snd.snd.snd.snd.snd.snd.snd.snd.fst, ()))
  ) (fun z2 =>
   some (z2)
  ) (y0)
def f42.ins : Shape := ⟨[(0, .c (.ptr 0 0)), (1, .agg [.int .i64, .int .i64]), (2, .agg [.int .i64, .int .i64]), (3, .c (.bool))], [(0, .box [.own 1, .nils, .nils, .int .i64, .int .i64, .nils]), (1, .arr (.int .u8))]⟩
def f42.outs : List Shape := [⟨[], [(0, .box [.own 1, .nils, .nils, .int .i64, .int .i64, .nils]), (1, .arr (.int .u8))]⟩]
def f42.S : FnSpec := ⟨f42.ins, f42.outs, [0, 1], fun x => f42 x.1 x.2.1 x.2.2.1 x.2.2.2.1 x.2.2.2.2.1 x.2.2.2.2.2.1 x.2.2.2.2.2.2.1 x.2.2.2.2.2.2.2.1⟩
def f42.E (fuel : Nat) : Env := ⟨tis, [(63, f63.S), (64, f64.S)], [(73, [.int .i64, .int .i64])], [(10, ⟨[(0, .c (.ptr 0 0)), (3, .c (.bool)), (5, .c (.ptr 2 0)), (6, .c (.ptr 3 0)), (8, .c (.bool))], [(0, .box [.own 1, .nils, .nils, .int .i64, .int .i64, .nils]), (1, .arr (.int .u8)), (2, .box [.int .i64, .int .i64]), (3, .box [.int .i64, .int .i64])]⟩)], [], [(0, ⟨[(0, .c (.ptr 0 0)), (3, .c (.bool)), (5, .c (.ptr 2 0)), (6, .c (.ptr 3 0)), (8, .c (.bool))], [(0, .box [.own 1, .nils, .nils, .int .i64, .int .i64, .nils]), (1, .arr (.int .u8)), (2, .box [.int .i64, .int .i64]), (3, .box [.int .i64, .int .i64])]⟩)], 2, [0, 1], fuel⟩
theorem f42.run : ∀ x, runFn (f42.E 100000000000000000000) Go.Proofs.Try.f42 ((Go.Proofs.Try.f42.body).getD .skip) f42.S x = f42.S.f x := by intro x; kernel_rfl
theorem f42.sound : Sound Go.Proofs.Try.prog 42 f42.S := sound_of_run (fun _ => f42.E 100000000000000000000) (by kernel_rfl) (by kernel_rfl) (by kernel_rfl) orders (fun _ => ⟨tis_ok, (EqsOk.cons eq73 (EqsOk.nil _)), (FnsOk.cons f63.sound (FnsOk.cons f64.sound FnsOk.nil))⟩) (fun _ => rfl) (by kernel_rfl) (by kernel_rfl) (fun x r h => (f42.run x).trans h)
/-! f77: adit/grid.kind -/
def f77 (a0 : List Int) (a1 : Int) : Option (Int × Unit) :=
 bif Decidable.decide (a1 < 0) then
  some ((0, ()))
 else
  bif Decidable.decide (a1 ≥ (↑(List.length a0) : Int)) then
   some ((0, ()))
  else
   bif inRange a1 (List.length a0) then
    some ((Go.IntKind.wrap Go.IntKind.i64 (List.getD a0 (Int.toNat a1) 0), ()))
   else
    none
def f77.ins : Shape := ⟨[(0, .c (.row (.int .u8))), (1, .c (.int .i64))], []⟩
def f77.outs : List Shape := [⟨[(0, .c (.int .i64))], []⟩]
def f77.S : FnSpec := ⟨f77.ins, f77.outs, [], fun x => f77 x.1 x.2.1⟩
def f77.E (fuel : Nat) : Env := ⟨tis, [], [], [], [], [], 0, [], fuel⟩
theorem f77.run : ∀ x, runFn (f77.E 100000000000000000000) Go.Proofs.Try.f77 ((Go.Proofs.Try.f77.body).getD .skip) f77.S x = f77.S.f x := by intro x; kernel_rfl
theorem f77.sound : Sound Go.Proofs.Try.prog 77 f77.S := sound_of_run (fun _ => f77.E 100000000000000000000) (by kernel_rfl) (by kernel_rfl) (by kernel_rfl) orders (fun _ => ⟨tis_ok, EqsOk.nil _, FnsOk.nil⟩) (fun _ => rfl) (by kernel_rfl) (by kernel_rfl) (fun x r h => (f77.run x).trans h)
/-! f76: adit/grid.Walk -/
def f76 (a0 : Int) : Option (Bool × Unit) :=
 bif Decidable.decide (a0 ≥ 1) then
  some ((Decidable.decide (a0 ≤ 5), ()))
 else
  some ((Bool.false, ()))
def f76.ins : Shape := ⟨[(0, .c (.int .i64))], []⟩
def f76.outs : List Shape := [⟨[(0, .c (.bool))], []⟩]
def f76.S : FnSpec := ⟨f76.ins, f76.outs, [], fun x => f76 x.1⟩
def f76.E (fuel : Nat) : Env := ⟨tis, [], [], [], [], [], 0, [], fuel⟩
theorem f76.run : ∀ x, runFn (f76.E 100000000000000000000) Go.Proofs.Try.f76 ((Go.Proofs.Try.f76.body).getD .skip) f76.S x = f76.S.f x := by intro x; kernel_rfl
theorem f76.sound : Sound Go.Proofs.Try.prog 76 f76.S := sound_of_run (fun _ => f76.E 100000000000000000000) (by kernel_rfl) (by kernel_rfl) (by kernel_rfl) orders (fun _ => ⟨tis_ok, EqsOk.nil _, FnsOk.nil⟩) (fun _ => rfl) (by kernel_rfl) (by kernel_rfl) (fun x r h => (f76.run x).trans h)
/-! f83: adit/grid.place -/
def f83 (a0 : Int) (a1 : Int) : Option (Int × Unit) :=
 bif Decidable.decide (a0 < 0) then
  some ((-1, ()))
 else
  bif Decidable.decide (a0 ≥ 24) then
   some ((-1, ()))
  else
   bif Decidable.decide (a1 < 0) then
    some ((-1, ()))
   else
    bif Decidable.decide (a1 ≥ 16) then
     some ((-1, ()))
    else
     some ((Go.IntKind.wrap Go.IntKind.i64 (Go.IntKind.wrap Go.IntKind.i64 (a1 * 24) + a0), ()))
def f83.ins : Shape := ⟨[(0, .c (.int .i64)), (1, .c (.int .i64))], []⟩
def f83.outs : List Shape := [⟨[(0, .c (.int .i64))], []⟩]
def f83.S : FnSpec := ⟨f83.ins, f83.outs, [], fun x => f83 x.1 x.2.1⟩
def f83.E (fuel : Nat) : Env := ⟨tis, [], [], [], [], [], 0, [], fuel⟩
theorem f83.run : ∀ x, runFn (f83.E 100000000000000000000) Go.Proofs.Try.f83 ((Go.Proofs.Try.f83.body).getD .skip) f83.S x = f83.S.f x := by intro x; kernel_rfl
theorem f83.sound : Sound Go.Proofs.Try.prog 83 f83.S := sound_of_run (fun _ => f83.E 100000000000000000000) (by kernel_rfl) (by kernel_rfl) (by kernel_rfl) orders (fun _ => ⟨tis_ok, EqsOk.nil _, FnsOk.nil⟩) (fun _ => rfl) (by kernel_rfl) (by kernel_rfl) (fun x r h => (f83.run x).trans h)
/-! f78: adit/grid.beside -/
def f78 (a0 : Int) : Option (Int × Int × Int × Int × Unit) :=
 Option.bind (f83 (Int.tmod a0 24) (Go.IntKind.wrap Go.IntKind.i64 (Go.IntKind.wrap Go.IntKind.i64 (Int.tdiv a0 24) - 1))) fun y0 =>
  Option.bind (f83 (Go.IntKind.wrap Go.IntKind.i64 (Int.tmod a0 24 + 1)) (Go.IntKind.wrap Go.IntKind.i64 (Int.tdiv a0 24))) fun y1 =>
   Option.bind (f83 (Int.tmod a0 24) (Go.IntKind.wrap Go.IntKind.i64 (Go.IntKind.wrap Go.IntKind.i64 (Int.tdiv a0 24) + 1))) fun y2 =>
    Option.bind (f83 (Go.IntKind.wrap Go.IntKind.i64 (Int.tmod a0 24 - 1)) (Go.IntKind.wrap Go.IntKind.i64 (Int.tdiv a0 24))) fun y3 =>
     some ((y0.fst, y1.fst, y2.fst, y3.fst, ()))
def f78.ins : Shape := ⟨[(0, .c (.int .i64))], []⟩
def f78.outs : List Shape := [⟨[(0, .agg [.int .i64, .int .i64, .int .i64, .int .i64])], []⟩]
def f78.S : FnSpec := ⟨f78.ins, f78.outs, [], fun x => f78 x.1⟩
def f78.E (fuel : Nat) : Env := ⟨tis, [(83, f83.S)], [], [], [], [], 0, [], fuel⟩
theorem f78.run : ∀ x, runFn (f78.E 100000000000000000000) Go.Proofs.Try.f78 ((Go.Proofs.Try.f78.body).getD .skip) f78.S x = f78.S.f x := by intro x; kernel_rfl
theorem f78.sound : Sound Go.Proofs.Try.prog 78 f78.S := sound_of_run (fun _ => f78.E 100000000000000000000) (by kernel_rfl) (by kernel_rfl) (by kernel_rfl) orders (fun _ => ⟨tis_ok, EqsOk.nil _, (FnsOk.cons f83.sound FnsOk.nil)⟩) (fun _ => rfl) (by kernel_rfl) (by kernel_rfl) (fun x r h => (f78.run x).trans h)
/-! f66: adit/grid.Field -/
def f66.L1 (k0 : List Int × List Bool × Int × Int × Int × List Int × List Int × List Int × Unit → Option (List Int × Unit)) (x : List Int × List Bool × Int × Int × Int × Int × Int × Int × Int × Int × List Int × List Int × List Int × Unit) : Option (List Int × Unit) :=
 it (X := List Int × List Bool × Int × Int × Int × Int × Int × Int × Int × Int × List Int × List Int × List Int × Unit) (fun rec x =>
 bif Decidable.decide (x.snd.snd.snd.snd.snd.snd.snd.snd.snd.fst < 4) then
  bif inRange x.snd.snd.snd.snd.snd.snd.snd.snd.snd.fst 4 then
   Option.bind (α := List Int × List Bool × Int × Int × Int × Int × Int × Int × Int × Int × Int × List Int × List Int × List Int × Unit ⊕ List Int × Unit) (
    bif Decidable.decide (List.getD [x.snd.snd.snd.snd.snd.fst, x.snd.snd.snd.snd.snd.snd.fst, x.snd.snd.snd.snd.snd.snd.snd.fst, x.snd.snd.snd.snd.snd.snd.snd.snd.fst] (Int.toNat x.snd.snd.snd.snd.snd.snd.snd.snd.snd.fst) 0 < 0) then
     Option.bind (rec (x.fst, x.snd.fst, x.snd.snd.fst, x.snd.snd.snd.fst, x.snd.snd.snd.snd.fst, x.snd.snd.snd.snd.snd.fst, x.snd.snd.snd.snd.snd.snd.fst, x.snd.snd.snd.snd.snd.snd.snd.fst, x.snd.snd.snd.snd.snd.snd.snd.snd.fst, Go.IntKind.wrap Go.IntKind.i64 (x.snd.snd.snd.snd.snd.snd.snd.snd.snd.fst + 1), x.snd.snd.snd.snd.snd.snd.snd.snd.snd.snd.fst, x.snd.snd.snd.snd.snd.snd.snd.snd.snd.snd.snd.fst, x.snd.snd.snd.snd.snd.snd.snd.snd.snd.snd.snd.snd.fst, ())) fun y0 =>
      some (Sum.inr y0)
    else
     bif inRange (List.getD [x.snd.snd.snd.snd.snd.fst, x.snd.snd.snd.snd.snd.snd.fst, x.snd.snd.snd.snd.snd.snd.snd.fst, x.snd.snd.snd.snd.snd.snd.snd.snd.fst] (Int.toNat x.snd.snd.snd.snd.snd.snd.snd.snd.snd.fst) 0) (List.length x.snd.snd.snd.snd.snd.snd.snd.snd.snd.snd.fst) then
      bif Decidable.decide (List.getD x.snd.snd.snd.snd.snd.snd.snd.snd.snd.snd.fst (Int.toNat (List.getD [x.snd.snd.snd.snd.snd.fst, x.snd.snd.snd.snd.snd.snd.fst, x.snd.snd.snd.snd.snd.snd.snd.fst, x.snd.snd.snd.snd.snd.snd.snd.snd.fst] (Int.toNat x.snd.snd.snd.snd.snd.snd.snd.snd.snd.fst) 0)) 0 ≥ 0) then
       Option.bind (rec (x.fst, x.snd.fst, x.snd.snd.fst, x.snd.snd.snd.fst, x.snd.snd.snd.snd.fst, x.snd.snd.snd.snd.snd.fst, x.snd.snd.snd.snd.snd.snd.fst, x.snd.snd.snd.snd.snd.snd.snd.fst, x.snd.snd.snd.snd.snd.snd.snd.snd.fst, Go.IntKind.wrap Go.IntKind.i64 (x.snd.snd.snd.snd.snd.snd.snd.snd.snd.fst + 1), x.snd.snd.snd.snd.snd.snd.snd.snd.snd.snd.fst, x.snd.snd.snd.snd.snd.snd.snd.snd.snd.snd.snd.fst, x.snd.snd.snd.snd.snd.snd.snd.snd.snd.snd.snd.snd.fst, ())) fun y1 =>
        some (Sum.inr y1)
      else
       Option.bind (f77 x.fst (List.getD [x.snd.snd.snd.snd.snd.fst, x.snd.snd.snd.snd.snd.snd.fst, x.snd.snd.snd.snd.snd.snd.snd.fst, x.snd.snd.snd.snd.snd.snd.snd.snd.fst] (Int.toNat x.snd.snd.snd.snd.snd.snd.snd.snd.snd.fst) 0)) fun y2 =>
        Option.bind (f76 y2.fst) fun y3 =>
         bif !y3.fst then
          Option.bind (rec (x.fst, x.snd.fst, x.snd.snd.fst, x.snd.snd.snd.fst, x.snd.snd.snd.snd.fst, x.snd.snd.snd.snd.snd.fst, x.snd.snd.snd.snd.snd.snd.fst, x.snd.snd.snd.snd.snd.snd.snd.fst, x.snd.snd.snd.snd.snd.snd.snd.snd.fst, Go.IntKind.wrap Go.IntKind.i64 (x.snd.snd.snd.snd.snd.snd.snd.snd.snd.fst + 1), x.snd.snd.snd.snd.snd.snd.snd.snd.snd.snd.fst, x.snd.snd.snd.snd.snd.snd.snd.snd.snd.snd.snd.fst, x.snd.snd.snd.snd.snd.snd.snd.snd.snd.snd.snd.snd.fst, ())) fun y4 =>
           some (Sum.inr y4)
         else
          bif Decidable.decide (List.getD [x.snd.snd.snd.snd.snd.fst, x.snd.snd.snd.snd.snd.snd.fst, x.snd.snd.snd.snd.snd.snd.snd.fst, x.snd.snd.snd.snd.snd.snd.snd.snd.fst] (Int.toNat x.snd.snd.snd.snd.snd.snd.snd.snd.snd.fst) 0 < (↑(List.length x.snd.fst) : Int)) then
           bif inRange (List.getD [x.snd.snd.snd.snd.snd.fst, x.snd.snd.snd.snd.snd.snd.fst, x.snd.snd.snd.snd.snd.snd.snd.fst, x.snd.snd.snd.snd.snd.snd.snd.snd.fst] (Int.toNat x.snd.snd.snd.snd.snd.snd.snd.snd.snd.fst) 0) (List.length x.snd.fst) then
            bif List.getD x.snd.fst (Int.toNat (List.getD [x.snd.snd.snd.snd.snd.fst, x.snd.snd.snd.snd.snd.snd.fst, x.snd.snd.snd.snd.snd.snd.snd.fst, x.snd.snd.snd.snd.snd.snd.snd.snd.fst] (Int.toNat x.snd.snd.snd.snd.snd.snd.snd.snd.snd.fst) 0)) Bool.false then
             Option.bind (rec (x.fst, x.snd.fst, x.snd.snd.fst, x.snd.snd.snd.fst, x.snd.snd.snd.snd.fst, x.snd.snd.snd.snd.snd.fst, x.snd.snd.snd.snd.snd.snd.fst, x.snd.snd.snd.snd.snd.snd.snd.fst, x.snd.snd.snd.snd.snd.snd.snd.snd.fst, Go.IntKind.wrap Go.IntKind.i64 (x.snd.snd.snd.snd.snd.snd.snd.snd.snd.fst + 1), x.snd.snd.snd.snd.snd.snd.snd.snd.snd.snd.fst, x.snd.snd.snd.snd.snd.snd.snd.snd.snd.snd.snd.fst, x.snd.snd.snd.snd.snd.snd.snd.snd.snd.snd.snd.snd.fst, ())) fun y5 =>
              some (Sum.inr y5)
            else
             some (Sum.inl (x.fst, x.snd.fst, x.snd.snd.fst, List.getD [x.snd.snd.snd.snd.snd.fst, x.snd.snd.snd.snd.snd.snd.fst, x.snd.snd.snd.snd.snd.snd.snd.fst, x.snd.snd.snd.snd.snd.snd.snd.snd.fst] (Int.toNat x.snd.snd.snd.snd.snd.snd.snd.snd.snd.fst) 0, x.snd.snd.snd.fst, x.snd.snd.snd.snd.fst, x.snd.snd.snd.snd.snd.fst, x.snd.snd.snd.snd.snd.snd.fst, x.snd.snd.snd.snd.snd.snd.snd.fst, x.snd.snd.snd.snd.snd.snd.snd.snd.fst, x.snd.snd.snd.snd.snd.snd.snd.snd.snd.fst, x.snd.snd.snd.snd.snd.snd.snd.snd.snd.snd.fst, x.snd.snd.snd.snd.snd.snd.snd.snd.snd.snd.snd.fst, x.snd.snd.snd.snd.snd.snd.snd.snd.snd.snd.snd.snd.fst, ()))
           else
            none
          else
           some (Sum.inl (x.fst, x.snd.fst, x.snd.snd.fst, List.getD [x.snd.snd.snd.snd.snd.fst, x.snd.snd.snd.snd.snd.snd.fst, x.snd.snd.snd.snd.snd.snd.snd.fst, x.snd.snd.snd.snd.snd.snd.snd.snd.fst] (Int.toNat x.snd.snd.snd.snd.snd.snd.snd.snd.snd.fst) 0, x.snd.snd.snd.fst, x.snd.snd.snd.snd.fst, x.snd.snd.snd.snd.snd.fst, x.snd.snd.snd.snd.snd.snd.fst, x.snd.snd.snd.snd.snd.snd.snd.fst, x.snd.snd.snd.snd.snd.snd.snd.snd.fst, x.snd.snd.snd.snd.snd.snd.snd.snd.snd.fst, x.snd.snd.snd.snd.snd.snd.snd.snd.snd.snd.fst, x.snd.snd.snd.snd.snd.snd.snd.snd.snd.snd.snd.fst, x.snd.snd.snd.snd.snd.snd.snd.snd.snd.snd.snd.snd.fst, ()))
     else
      none
   ) fun y6 =>
    Sum.elim (fun y7 =>
     bif inRange y7.snd.snd.snd.fst (List.length y7.snd.snd.snd.snd.snd.snd.snd.snd.snd.snd.snd.fst) then
      bif Decidable.decide (List.length y7.snd.snd.snd.snd.snd.snd.snd.snd.snd.snd.snd.snd.fst + 1 ≤ limit 8) then
       rec (y7.fst, y7.snd.fst, y7.snd.snd.fst, y7.snd.snd.snd.snd.fst, y7.snd.snd.snd.snd.snd.fst, y7.snd.snd.snd.snd.snd.snd.fst, y7.snd.snd.snd.snd.snd.snd.snd.fst, y7.snd.snd.snd.snd.snd.snd.snd.snd.fst, y7.snd.snd.snd.snd.snd.snd.snd.snd.snd.fst, Go.IntKind.wrap Go.IntKind.i64 (y7.snd.snd.snd.snd.snd.snd.snd.snd.snd.snd.fst + 1), List.set y7.snd.snd.snd.snd.snd.snd.snd.snd.snd.snd.snd.fst (Int.toNat y7.snd.snd.snd.fst) y7.snd.snd.fst, y7.snd.snd.snd.snd.snd.snd.snd.snd.snd.snd.snd.snd.fst ++ [y7.snd.snd.snd.fst], y7.snd.snd.snd.snd.snd.snd.snd.snd.snd.snd.snd.snd.snd.fst, ())
      else
       none
     else
      none
    ) (fun z8 =>
     some (z8)
    ) (y6)
  else
   none
 else
  k0 (x.fst, x.snd.fst, x.snd.snd.fst, x.snd.snd.snd.fst, Go.IntKind.wrap Go.IntKind.i64 (x.snd.snd.snd.snd.fst + 1), x.snd.snd.snd.snd.snd.snd.snd.snd.snd.snd.fst, x.snd.snd.snd.snd.snd.snd.snd.snd.snd.snd.snd.fst, x.snd.snd.snd.snd.snd.snd.snd.snd.snd.snd.snd.snd.fst, ())
 ) (100000000000000000000) (x)
def f66.L2 (k0 : List Int × List Bool × Int × List Int × List Int × Unit → Option (List Int × Unit)) (x : List Int × List Bool × Int × Int × Int × List Int × List Int × List Int × Unit) : Option (List Int × Unit) :=
 it (X := List Int × List Bool × Int × Int × Int × List Int × List Int × List Int × Unit) (fun rec x =>
 bif Decidable.decide (x.snd.snd.snd.snd.fst < x.snd.snd.snd.fst) then
  bif inRange x.snd.snd.snd.snd.fst (List.length x.snd.snd.snd.snd.snd.snd.snd.fst) then
   Option.bind (f78 (List.getD x.snd.snd.snd.snd.snd.snd.snd.fst (Int.toNat x.snd.snd.snd.snd.fst) 0)) fun y0 =>
    f66.L1 rec ((x.fst, x.snd.fst, x.snd.snd.fst, x.snd.snd.snd.fst, x.snd.snd.snd.snd.fst, y0.fst, y0.snd.fst, y0.snd.snd.fst, y0.snd.snd.snd.fst, 0, x.snd.snd.snd.snd.snd.fst, x.snd.snd.snd.snd.snd.snd.fst, x.snd.snd.snd.snd.snd.snd.snd.fst, ()))
  else
   none
 else
  bif Decidable.decide ((↑(List.length x.snd.snd.snd.snd.snd.snd.fst) : Int) > 0) then
   k0 (x.fst, x.snd.fst, x.snd.snd.fst, x.snd.snd.snd.snd.snd.fst, x.snd.snd.snd.snd.snd.snd.fst, ())
  else
   some ((x.snd.snd.snd.snd.snd.fst, ()))
 ) (100000000000000000000) (x)
def f66.L3 (x : List Int × List Bool × Int × List Int × List Int × Unit) : Option (List Int × Unit) :=
 it (X := List Int × List Bool × Int × List Int × List Int × Unit) (fun rec x =>
 f66.L2 rec ((x.fst, x.snd.fst, Go.IntKind.wrap Go.IntKind.i64 (x.snd.snd.fst + 1), (↑(List.length x.snd.snd.snd.snd.fst) : Int), 0, x.snd.snd.snd.fst, [], x.snd.snd.snd.snd.fst, ()))
 ) (100000000000000000000) (x)
def f66.L4 (x : List Int × List Bool × Int × Int × Int × List Int × List Int × List Int × Unit) : Option (List Int × Unit) :=
 it (X := List Int × List Bool × Int × Int × Int × List Int × List Int × List Int × Unit) (fun rec x =>
 bif Decidable.decide (x.snd.snd.snd.snd.fst < x.snd.snd.snd.fst) then
  bif inRange x.snd.snd.snd.snd.fst (List.length x.snd.snd.snd.snd.snd.snd.snd.fst) then
   Option.bind (f78 (List.getD x.snd.snd.snd.snd.snd.snd.snd.fst (Int.toNat x.snd.snd.snd.snd.fst) 0)) fun y0 =>
    f66.L1 rec ((x.fst, x.snd.fst, x.snd.snd.fst, x.snd.snd.snd.fst, x.snd.snd.snd.snd.fst, y0.fst, y0.snd.fst, y0.snd.snd.fst, y0.snd.snd.snd.fst, 0, x.snd.snd.snd.snd.snd.fst, x.snd.snd.snd.snd.snd.snd.fst, x.snd.snd.snd.snd.snd.snd.snd.fst, ()))
  else
   none
 else
  bif Decidable.decide ((↑(List.length x.snd.snd.snd.snd.snd.snd.fst) : Int) > 0) then
   f66.L3 ((x.fst, x.snd.fst, x.snd.snd.fst, x.snd.snd.snd.snd.snd.fst, x.snd.snd.snd.snd.snd.snd.fst, ()))
  else
   some ((x.snd.snd.snd.snd.snd.fst, ()))
 ) (100000000000000000000) (x)
def f66.L5 (x : List Int × List Bool × List Int × Int × Int × List Int × List Int × Unit) : Option (List Int × Unit) :=
 it (X := List Int × List Bool × List Int × Int × Int × List Int × List Int × Unit) (fun rec x =>
 bif Decidable.decide (x.snd.snd.snd.snd.fst < x.snd.snd.snd.fst) then
  bif inRange x.snd.snd.snd.snd.fst (List.length x.snd.snd.fst) then
   bif Decidable.decide (List.getD x.snd.snd.fst (Int.toNat x.snd.snd.snd.snd.fst) 0 ≥ 0) then
    bif Decidable.decide (List.getD x.snd.snd.fst (Int.toNat x.snd.snd.snd.snd.fst) 0 < 384) then
     bif inRange (List.getD x.snd.snd.fst (Int.toNat x.snd.snd.snd.snd.fst) 0) (List.length x.snd.snd.snd.snd.snd.fst) then
      bif Decidable.decide (List.getD x.snd.snd.snd.snd.snd.fst (Int.toNat (List.getD x.snd.snd.fst (Int.toNat x.snd.snd.snd.snd.fst) 0)) 0 < 0) then
       Option.bind (f77 x.fst (List.getD x.snd.snd.fst (Int.toNat x.snd.snd.snd.snd.fst) 0)) fun y0 =>
        Option.bind (f76 y0.fst) fun y1 =>
         bif y1.fst then
          bif inRange (List.getD x.snd.snd.fst (Int.toNat x.snd.snd.snd.snd.fst) 0) (List.length x.snd.snd.snd.snd.snd.fst) then
           bif Decidable.decide (List.length x.snd.snd.snd.snd.snd.snd.fst + 1 ≤ limit 8) then
            rec (x.fst, x.snd.fst, x.snd.snd.fst, x.snd.snd.snd.fst, Go.IntKind.wrap Go.IntKind.i64 (x.snd.snd.snd.snd.fst + 1), List.set x.snd.snd.snd.snd.snd.fst (Int.toNat (List.getD x.snd.snd.fst (Int.toNat x.snd.snd.snd.snd.fst) 0)) 0, x.snd.snd.snd.snd.snd.snd.fst ++ [List.getD x.snd.snd.fst (Int.toNat x.snd.snd.snd.snd.fst) 0], ())
           else
            none
          else
           none
         else
          rec (x.fst, x.snd.fst, x.snd.snd.fst, x.snd.snd.snd.fst, Go.IntKind.wrap Go.IntKind.i64 (x.snd.snd.snd.snd.fst + 1), x.snd.snd.snd.snd.snd.fst, x.snd.snd.snd.snd.snd.snd.fst, ())
      else
       rec (x.fst, x.snd.fst, x.snd.snd.fst, x.snd.snd.snd.fst, Go.IntKind.wrap Go.IntKind.i64 (x.snd.snd.snd.snd.fst + 1), x.snd.snd.snd.snd.snd.fst, x.snd.snd.snd.snd.snd.snd.fst, ())
     else
      none
    else
     rec (x.fst, x.snd.fst, x.snd.snd.fst, x.snd.snd.snd.fst, Go.IntKind.wrap Go.IntKind.i64 (x.snd.snd.snd.snd.fst + 1), x.snd.snd.snd.snd.snd.fst, x.snd.snd.snd.snd.snd.snd.fst, ())
   else
    rec (x.fst, x.snd.fst, x.snd.snd.fst, x.snd.snd.snd.fst, Go.IntKind.wrap Go.IntKind.i64 (x.snd.snd.snd.snd.fst + 1), x.snd.snd.snd.snd.snd.fst, x.snd.snd.snd.snd.snd.snd.fst, ())
  else
   none
 else
  f66.L4 ((x.fst, x.snd.fst, Go.IntKind.wrap Go.IntKind.i64 (0 + 1), (↑(List.length x.snd.snd.snd.snd.snd.snd.fst) : Int), 0, x.snd.snd.snd.snd.snd.fst, [], x.snd.snd.snd.snd.snd.snd.fst, ()))
 ) (100000000000000000000) (x)
def f66.L6 (x : List Int × List Bool × List Int × Int × Int × List Int × Unit) : Option (List Int × Unit) :=
 it (X := List Int × List Bool × List Int × Int × Int × List Int × Unit) (fun rec x =>
 bif Decidable.decide (x.snd.snd.snd.snd.fst < x.snd.snd.snd.fst) then
  bif inRange x.snd.snd.snd.snd.fst (List.length x.snd.snd.snd.snd.snd.fst) then
   rec (x.fst, x.snd.fst, x.snd.snd.fst, x.snd.snd.snd.fst, Go.IntKind.wrap Go.IntKind.i64 (x.snd.snd.snd.snd.fst + 1), List.set x.snd.snd.snd.snd.snd.fst (Int.toNat x.snd.snd.snd.snd.fst) (-1), ())
  else
   none
 else
  f66.L5 ((x.fst, x.snd.fst, x.snd.snd.fst, (↑(List.length x.snd.snd.fst) : Int), 0, x.snd.snd.snd.snd.snd.fst, [], ()))
 ) (100000000000000000000) (x)
def f66 (a0 : List Int) (a1 : List Bool) (a2 : List Int) : Option (List Int × Unit) :=
 f66.L6 ((a0, a1, a2, (↑(List.length (List.replicate 384 0)) : Int), 0, List.replicate 384 0, ()))
def f66.ins : Shape := ⟨[(0, .c (.row (.int .u8))), (1, .c (.row .bool)), (2, .c (.row (.int .i64)))], []⟩
def f66.outs : List Shape := [⟨[(0, .c (.own 0))], [(0, .arr (.int .i64))]⟩]
def f66.S : FnSpec := ⟨f66.ins, f66.outs, [], fun x => f66 x.1 x.2.1 x.2.2.1⟩
def f66.E (fuel : Nat) : Env := ⟨tis, [(77, f77.S), (76, f76.S), (78, f78.S)], [], [(26, ⟨[(0, .c (.row (.int .u8))), (1, .c (.row .bool)), (7, .c (.own 0)), (10, .c (.own 1)), (13, .c (.int .i64)), (17, .c (.int .i64)), (63, .c (.own 2)), (64, .c (.int .i64)), (65, .c (.int .i64)), (70, .agg [.int .i64, .int .i64, .int .i64, .int .i64]), (71, .c (.int .i64))], [(0, .arr (.int .i64)), (1, .arr (.int .i64)), (2, .arr (.int .i64))]⟩)], [(4, ⟨[(0, .c (.row (.int .u8))), (1, .c (.row .bool)), (2, .c (.row (.int .i64))), (7, .c (.own 0)), (20, .c (.int .i64)), (21, .c (.int .i64))], [(0, .arr (.int .i64))]⟩), (10, ⟨[(0, .c (.row (.int .u8))), (1, .c (.row .bool)), (7, .c (.own 0)), (9, .c (.own 1)), (28, .c (.row (.int .i64))), (29, .c (.int .i64)), (30, .c (.int .i64))], [(0, .arr (.int .i64)), (1, .arr (.int .i64))]⟩), (20, ⟨[(0, .c (.row (.int .u8))), (1, .c (.row .bool)), (7, .c (.own 0)), (10, .c (.own 1)), (13, .c (.int .i64)), (63, .c (.own 2)), (64, .c (.int .i64)), (65, .c (.int .i64))], [(0, .arr (.int .i64)), (1, .arr (.int .i64)), (2, .arr (.int .i64))]⟩), (23, ⟨[(0, .c (.row (.int .u8))), (1, .c (.row .bool)), (7, .c (.own 0)), (10, .c (.own 1)), (13, .c (.int .i64)), (63, .c (.own 2)), (64, .c (.int .i64)), (65, .c (.int .i64)), (70, .agg [.int .i64, .int .i64, .int .i64, .int .i64]), (71, .c (.int .i64))], [(0, .arr (.int .i64)), (1, .arr (.int .i64)), (2, .arr (.int .i64))]⟩)], [(0, ⟨[(0, .c (.row (.int .u8))), (1, .c (.row .bool)), (7, .c (.own 0)), (9, .c (.own 1)), (13, .c (.int .i64))], [(0, .arr (.int .i64)), (1, .arr (.int .i64))]⟩)], 0, [], fuel⟩
theorem f66.run : ∀ x, runFn (f66.E 100000000000000000000) Go.Proofs.Try.f66 ((Go.Proofs.Try.f66.body).getD .skip) f66.S x = f66.S.f x := by intro x; kernel_rfl
theorem f66.sound : Sound Go.Proofs.Try.prog 66 f66.S := sound_of_run (fun _ => f66.E 100000000000000000000) (by kernel_rfl) (by kernel_rfl) (by kernel_rfl) orders (fun _ => ⟨tis_ok, EqsOk.nil _, (FnsOk.cons f77.sound (FnsOk.cons f76.sound (FnsOk.cons f78.sound FnsOk.nil)))⟩) (fun _ => rfl) (by kernel_rfl) (by kernel_rfl) (fun x r h => (f66.run x).trans h)
/-! f67: slices.Max[[]int,int] -/
def f67.L1 (x : List Int × Int × Int × Unit) : Option (Int × Unit) :=
 it (X := List Int × Int × Int × Unit) (fun rec x =>
 bif Decidable.decide (x.snd.snd.fst < (↑(List.length x.fst) : Int)) then
  bif inRange x.snd.snd.fst (List.length x.fst) then
   rec (x.fst, maxI x.snd.fst (List.getD x.fst (Int.toNat x.snd.snd.fst) 0), Go.IntKind.wrap Go.IntKind.i64 (x.snd.snd.fst + 1), ())
  else
   none
 else
  some ((x.snd.fst, ()))
 ) (100000000000000000000) (x)
def f67 (a0 : List Int) : Option (Int × Unit) :=
 bif Decidable.decide ((↑(List.length a0) : Int) < 1) then
  none
 else
  bif inRange 0 (List.length a0) then
   f67.L1 ((a0, List.getD a0 0 0, 1, ()))
  else
   none
def f67.ins : Shape := ⟨[(0, .c (.row (.int .i64)))], []⟩
def f67.outs : List Shape := [⟨[(0, .c (.int .i64))], []⟩]
def f67.S : FnSpec := ⟨f67.ins, f67.outs, [], fun x => f67 x.1⟩
def f67.E (fuel : Nat) : Env := ⟨tis, [], [], [], [(6, ⟨[(0, .c (.row (.int .i64))), (3, .c (.int .i64)), (4, .c (.int .i64))], []⟩)], [], 0, [], fuel⟩
theorem f67.run : ∀ x, runFn (f67.E 100000000000000000000) Go.Proofs.Try.f67 ((Go.Proofs.Try.f67.body).getD .skip) f67.S x = f67.S.f x := by intro x; kernel_rfl
theorem f67.sound : Sound Go.Proofs.Try.prog 67 f67.S := sound_of_run (fun _ => f67.E 100000000000000000000) (by kernel_rfl) (by kernel_rfl) (by kernel_rfl) orders (fun _ => ⟨tis_ok, EqsOk.nil _, FnsOk.nil⟩) (fun _ => rfl) (by kernel_rfl) (by kernel_rfl) (fun x r h => (f67.run x).trans h)
/-! f68: slices.Index[[]int,int] -/
def f68.L1 (x : List Int × Int × Int × Int × Unit) : Option (Int × Unit) :=
 it (X := List Int × Int × Int × Int × Unit) (fun rec x =>
 bif Decidable.decide (x.snd.snd.snd.fst < x.snd.snd.fst) then
  bif inRange x.snd.snd.snd.fst (List.length x.fst) then
   bif x.snd.fst == List.getD x.fst (Int.toNat x.snd.snd.snd.fst) 0 then
    some ((x.snd.snd.snd.fst, ()))
   else
    rec (x.fst, x.snd.fst, x.snd.snd.fst, Go.IntKind.wrap Go.IntKind.i64 (x.snd.snd.snd.fst + 1), ())
  else
   none
 else
  some ((-1, ()))
 ) (100000000000000000000) (x)
def f68 (a0 : List Int) (a1 : Int) : Option (Int × Unit) :=
 f68.L1 ((a0, a1, (↑(List.length a0) : Int), 0, ()))
def f68.ins : Shape := ⟨[(0, .c (.row (.int .i64))), (1, .c (.int .i64))], []⟩
def f68.outs : List Shape := [⟨[(0, .c (.int .i64))], []⟩]
def f68.S : FnSpec := ⟨f68.ins, f68.outs, [], fun x => f68 x.1 x.2.1⟩
def f68.E (fuel : Nat) : Env := ⟨tis, [], [], [], [(3, ⟨[(0, .c (.row (.int .i64))), (1, .c (.int .i64)), (7, .c (.int .i64)), (8, .c (.int .i64))], []⟩)], [], 0, [], fuel⟩
theorem f68.run : ∀ x, runFn (f68.E 100000000000000000000) Go.Proofs.Try.f68 ((Go.Proofs.Try.f68.body).getD .skip) f68.S x = f68.S.f x := by intro x; kernel_rfl
theorem f68.sound : Sound Go.Proofs.Try.prog 68 f68.S := sound_of_run (fun _ => f68.E 100000000000000000000) (by kernel_rfl) (by kernel_rfl) (by kernel_rfl) orders (fun _ => ⟨tis_ok, EqsOk.nil _, FnsOk.nil⟩) (fun _ => rfl) (by kernel_rfl) (by kernel_rfl) (fun x r h => (f68.run x).trans h)
/-! f44: (*adit/gen.maker).stairs -/
def f44.L1 (x : Int × Int × Int × Int × Int × List Int × List Int × Unit) : Option (Int × Int × List Int × List Int × Unit) :=
 it (X := Int × Int × Int × Int × Int × List Int × List Int × Unit) (fun rec x =>
 bif Decidable.decide (x.snd.snd.fst < x.snd.fst) then
  bif inRange x.snd.snd.fst (List.length x.snd.snd.snd.snd.snd.snd.fst) then
   bif List.getD x.snd.snd.snd.snd.snd.snd.fst (Int.toNat x.snd.snd.fst) 0 == Go.IntKind.wrap Go.IntKind.i64 (Int.tdiv x.fst 2) then
    bif inRange x.snd.snd.fst (List.length x.snd.snd.snd.snd.snd.fst) then
     bif List.getD x.snd.snd.snd.snd.snd.fst (Int.toNat x.snd.snd.fst) 0 == 1 then
      bif inRange x.snd.snd.fst (List.length x.snd.snd.snd.snd.snd.fst) then
       some ((x.snd.snd.snd.fst, x.snd.snd.snd.snd.fst, List.set x.snd.snd.snd.snd.snd.fst (Int.toNat x.snd.snd.fst) 5, x.snd.snd.snd.snd.snd.snd.fst, ()))
      else
       none
     else
      rec (x.fst, x.snd.fst, Go.IntKind.wrap Go.IntKind.i64 (x.snd.snd.fst + 1), x.snd.snd.snd.fst, x.snd.snd.snd.snd.fst, x.snd.snd.snd.snd.snd.fst, x.snd.snd.snd.snd.snd.snd.fst, ())
    else
     none
   else
    rec (x.fst, x.snd.fst, Go.IntKind.wrap Go.IntKind.i64 (x.snd.snd.fst + 1), x.snd.snd.snd.fst, x.snd.snd.snd.snd.fst, x.snd.snd.snd.snd.snd.fst, x.snd.snd.snd.snd.snd.snd.fst, ())
  else
   none
 else
  some ((x.snd.snd.snd.fst, x.snd.snd.snd.snd.fst, x.snd.snd.snd.snd.snd.fst, x.snd.snd.snd.snd.snd.snd.fst, ()))
 ) (100000000000000000000) (x)
def f44 (a0 : Int) (a1 : Int) (a2 : Int) (a3 : Int) (a4 : List Int) : Option (Int × Int × List Int × List Int × Unit) :=
 Option.bind (f63 a0 a1) fun y0 =>
  bif inRange y0.fst (List.length a4) then
   Option.bind (f63 a0 a1) fun y1 =>
    Option.bind (f66 (List.set a4 (Int.toNat y0.fst) 3) [] [y1.fst]) fun y2 =>
     Option.bind (f67 y2.fst) fun y3 =>
      Option.bind (f68 y2.fst y3.fst) fun y4 =>
       bif inRange y4.fst (List.length (List.set a4 (Int.toNat y0.fst) 3)) then
        Option.bind (f43 ((List.set (List.set a4 (Int.toNat y0.fst) 3) (Int.toNat y4.fst) 4, [], []), a2, a3, y2.fst) 6 0 2) fun y5 =>
         bif y5.fst != 0 then
          some ((a2, a3, List.set (List.set a4 (Int.toNat y0.fst) 3) (Int.toNat y4.fst) 4, y2.fst, ()))
         else
          f44.L1 ((y3.fst, (↑(List.length y2.fst) : Int), 0, a2, a3, List.set (List.set a4 (Int.toNat y0.fst) 3) (Int.toNat y4.fst) 4, y2.fst, ()))
       else
        none
  else
   none
def f44.ins : Shape := ⟨[(0, .c (.ptr 0 0)), (1, .agg [.int .i64, .int .i64])], [(0, .box [.own 1, .nils, .nils, .int .i64, .int .i64, .nils]), (1, .arr (.int .u8))]⟩
def f44.outs : List Shape := [⟨[], [(0, .box [.own 1, .nils, .nils, .int .i64, .int .i64, .own 2]), (1, .arr (.int .u8)), (2, .arr (.int .i64))]⟩]
def f44.S : FnSpec := ⟨f44.ins, f44.outs, [0, 1], fun x => f44 x.1 x.2.1 x.2.2.1 x.2.2.2.1 x.2.2.2.2.1⟩
def f44.E (fuel : Nat) : Env := ⟨tis, [(43, f43.S), (63, f63.S), (66, f66.S), (67, f67.S), (68, f68.S)], [], [], [(8, ⟨[(0, .c (.ptr 0 0)), (4, .c (.int .i64)), (50, .c (.own 2)), (51, .c (.int .i64)), (52, .c (.int .i64))], [(0, .box [.own 1, .nils, .nils, .int .i64, .int .i64, .own 2]), (1, .arr (.int .u8)), (2, .arr (.int .i64))]⟩)], [], 2, [0, 1], fuel⟩
theorem f44.run : ∀ x, runFn (f44.E 100000000000000000000) Go.Proofs.Try.f44 ((Go.Proofs.Try.f44.body).getD .skip) f44.S x = f44.S.f x := by intro x; kernel_rfl
theorem f44.sound : Sound Go.Proofs.Try.prog 44 f44.S := sound_of_run (fun _ => f44.E 100000000000000000000) (by kernel_rfl) (by kernel_rfl) (by kernel_rfl) orders (fun _ => ⟨tis_ok, EqsOk.nil _, (FnsOk.cons f43.sound (FnsOk.cons f63.sound (FnsOk.cons f66.sound (FnsOk.cons f67.sound (FnsOk.cons f68.sound FnsOk.nil)))))⟩) (fun _ => rfl) (by kernel_rfl) (by kernel_rfl) (fun x r h => (f44.run x).trans h)
/-! f79: slices.Contains[[]int,int] -/
def f79 (a0 : List Int) (a1 : Int) : Option (Bool × Unit) :=
 Option.bind (f68 a0 a1) fun y0 =>
  some ((Decidable.decide (y0.fst ≥ 0), ()))
def f79.ins : Shape := ⟨[(0, .c (.row (.int .i64))), (1, .c (.int .i64))], []⟩
def f79.outs : List Shape := [⟨[(0, .c (.bool))], []⟩]
def f79.S : FnSpec := ⟨f79.ins, f79.outs, [], fun x => f79 x.1 x.2.1⟩
def f79.E (fuel : Nat) : Env := ⟨tis, [(68, f68.S)], [], [], [], [], 0, [], fuel⟩
theorem f79.run : ∀ x, runFn (f79.E 100000000000000000000) Go.Proofs.Try.f79 ((Go.Proofs.Try.f79.body).getD .skip) f79.S x = f79.S.f x := by intro x; kernel_rfl
theorem f79.sound : Sound Go.Proofs.Try.prog 79 f79.S := sound_of_run (fun _ => f79.E 100000000000000000000) (by kernel_rfl) (by kernel_rfl) (by kernel_rfl) orders (fun _ => ⟨tis_ok, EqsOk.nil _, (FnsOk.cons f68.sound FnsOk.nil)⟩) (fun _ => rfl) (by kernel_rfl) (by kernel_rfl) (fun x r h => (f79.run x).trans h)
/-! f69: (*adit/gen.maker).free -/
def f69.L1 (x : ((List Int × List (Int × Int × Int × Int × Int × Int × Int × Int × Int × Int × Int) × List (Int × Int × Int × Int)) × Int × Int × List Int) × Int × List Int × List Int × Int × Int × List Int × Unit) : Option (List Int × Unit) :=
 it (X := ((List Int × List (Int × Int × Int × Int × Int × Int × Int × Int × Int × Int × Int) × List (Int × Int × Int × Int)) × Int × Int × List Int) × Int × List Int × List Int × Int × Int × List Int × Unit) (fun rec x =>
 bif Decidable.decide (x.snd.snd.snd.snd.snd.fst < x.snd.snd.snd.snd.fst) then
  bif inRange x.snd.snd.snd.snd.snd.fst (List.length x.snd.snd.snd.fst) then
   bif inRange x.snd.snd.snd.snd.snd.fst (List.length x.fst.fst.fst) then
    bif List.getD x.fst.fst.fst (Int.toNat x.snd.snd.snd.snd.snd.fst) 0 == 1 then
     bif Decidable.decide (List.getD x.snd.snd.snd.fst (Int.toNat x.snd.snd.snd.snd.snd.fst) 0 ≥ x.snd.fst) then
      Option.bind (f79 x.snd.snd.fst x.snd.snd.snd.snd.snd.fst) fun y0 =>
       bif !y0.fst then
        bif Decidable.decide (List.length x.snd.snd.snd.snd.snd.snd.fst + 1 ≤ limit 8) then
         rec (x.fst, x.snd.fst, x.snd.snd.fst, x.snd.snd.snd.fst, x.snd.snd.snd.snd.fst, Go.IntKind.wrap Go.IntKind.i64 (x.snd.snd.snd.snd.snd.fst + 1), x.snd.snd.snd.snd.snd.snd.fst ++ [x.snd.snd.snd.snd.snd.fst], ())
        else
         none
       else
        rec (x.fst, x.snd.fst, x.snd.snd.fst, x.snd.snd.snd.fst, x.snd.snd.snd.snd.fst, Go.IntKind.wrap Go.IntKind.i64 (x.snd.snd.snd.snd.snd.fst + 1), x.snd.snd.snd.snd.snd.snd.fst, ())
     else
      rec (x.fst, x.snd.fst, x.snd.snd.fst, x.snd.snd.snd.fst, x.snd.snd.snd.snd.fst, Go.IntKind.wrap Go.IntKind.i64 (x.snd.snd.snd.snd.snd.fst + 1), x.snd.snd.snd.snd.snd.snd.fst, ())
    else
     rec (x.fst, x.snd.fst, x.snd.snd.fst, x.snd.snd.snd.fst, x.snd.snd.snd.snd.fst, Go.IntKind.wrap Go.IntKind.i64 (x.snd.snd.snd.snd.snd.fst + 1), x.snd.snd.snd.snd.snd.snd.fst, ())
   else
    none
  else
   none
 else
  some ((x.snd.snd.snd.snd.snd.snd.fst, ()))
 ) (100000000000000000000) (x)
def f69 (a0 : (List Int × List (Int × Int × Int × Int × Int × Int × Int × Int × Int × Int × Int) × List (Int × Int × Int × Int)) × Int × Int × List Int) (a1 : Int) (a2 : List Int) : Option (List Int × Unit) :=
 f69.L1 ((a0, a1, a2, a0.snd.snd.snd, (↑(List.length a0.snd.snd.snd) : Int), 0, [], ()))
def f69.ins : Shape := ⟨[(0, .c (.bptr (.prod (.prod (.row (.int .u8)) (.prod (.row (.prod (.int .i64) (.prod (.int .i64) (.prod (.int .i64) (.prod (.int .i64) (.prod (.int .i64) (.prod (.int .i64) (.prod (.int .i64) (.prod (.int .i64) (.prod (.int .i64) (.prod (.int .i64) (.int .i64)))))))))))) (.row (.prod (.int .i64) (.prod (.int .i64) (.prod (.int .i64) (.int .i64))))))) (.prod (.int .i64) (.prod (.int .i64) (.row (.int .i64))))))), (1, .c (.int .i64)), (2, .c (.row (.int .i64)))], []⟩
def f69.outs : List Shape := [⟨[(0, .c (.own 0))], [(0, .arr (.int .i64))]⟩]
def f69.S : FnSpec := ⟨f69.ins, f69.outs, [], fun x => f69 x.1 x.2.1 x.2.2.1⟩
def f69.E (fuel : Nat) : Env := ⟨tis, [(79, f79.S)], [], [], [(4, ⟨[(0, .c (.bptr (.prod (.prod (.row (.int .u8)) (.prod (.row (.prod (.int .i64) (.prod (.int .i64) (.prod (.int .i64) (.prod (.int .i64) (.prod (.int .i64) (.prod (.int .i64) (.prod (.int .i64) (.prod (.int .i64) (.prod (.int .i64) (.prod (.int .i64) (.int .i64)))))))))))) (.row (.prod (.int .i64) (.prod (.int .i64) (.prod (.int .i64) (.int .i64))))))) (.prod (.int .i64) (.prod (.int .i64) (.row (.int .i64))))))), (1, .c (.int .i64)), (2, .c (.row (.int .i64))), (7, .c (.own 0)), (13, .c (.row (.int .i64))), (14, .c (.int .i64)), (15, .c (.int .i64))], [(0, .arr (.int .i64))]⟩)], [], 0, [], fuel⟩
theorem f69.run : ∀ x, runFn (f69.E 100000000000000000000) Go.Proofs.Try.f69 ((Go.Proofs.Try.f69.body).getD .skip) f69.S x = f69.S.f x := by intro x; kernel_rfl
theorem f69.sound : Sound Go.Proofs.Try.prog 69 f69.S := sound_of_run (fun _ => f69.E 100000000000000000000) (by kernel_rfl) (by kernel_rfl) (by kernel_rfl) orders (fun _ => ⟨tis_ok, EqsOk.nil _, (FnsOk.cons f79.sound FnsOk.nil)⟩) (fun _ => rfl) (by kernel_rfl) (by kernel_rfl) (fun x r h => (f69.run x).trans h)
/-! f70: adit/ents.Stats -/
def f70 (a0 : Int) : Option (Int × Int × Int × Int × Int × Int × Int × Int × Int × Int × Int × Unit) :=
 Option.bind (α := Int × Int × Int × Int × Int × Int × Int × Int × Int × Int × Int × Int × Int × Int × Int × Int × Int × Int × Int × Int × Int × Int × Unit ⊕ Int × Int × Int × Int × Int × Int × Int × Int × Int × Int × Int × Unit) (
  bif a0 == 1 then
   some (Sum.inl (0, 0, 0, 0, 0, 0, 0, 0, 0, 0, 0, a0, 0, 0, 0, 0, 20, 0, 5, 1, 0, 0, ()))
  else
   bif a0 == 2 then
    some (Sum.inl (0, 0, 0, 0, 0, 0, 0, 0, 0, 0, 0, a0, 0, 0, 0, 0, 4, 0, 2, 0, 0, 0, ()))
   else
    bif a0 == 3 then
     some (Sum.inl (0, 0, 0, 0, 0, 0, 0, 0, 0, 0, 0, a0, 0, 0, 0, 0, 9, 0, 4, 1, 0, 0, ()))
    else
     bif a0 == 4 then
      some (Sum.inl (0, 0, 0, 0, 0, 0, 0, 0, 0, 0, 0, a0, 0, 0, 0, 0, 6, 0, 3, 0, 0, 0, ()))
     else
      some (Sum.inr (0, 0, 0, 0, 0, 0, 0, 0, 0, 0, 0, ()))
 ) fun y0 =>
  Sum.elim (fun y1 =>
   some ((y1.snd.snd.snd.snd.snd.snd.snd.snd.snd.snd.snd.fst, y1.snd.snd.snd.snd.snd.snd.snd.snd.snd.snd.snd.snd.fst, y1.snd.snd.snd.snd.snd.snd.snd.snd.snd.snd.snd.snd.snd.fst, y1.snd.snd.snd.snd.snd.snd.snd.snd.snd.snd.snd.snd.snd.snd.fst, y1.snd.snd.snd.snd.snd.snd.snd.snd.snd.snd.snd.snd.snd.snd.snd.fst, y1.snd.snd.snd.snd.snd.snd.snd.snd.snd.snd.snd.snd.snd.snd.snd.snd.fst, y1.snd.snd.snd.snd.snd.snd.snd.snd.snd.snd.snd.snd.snd.snd.snd.snd.fst, y1.snd.snd.snd.snd.snd.snd.snd.snd.snd.snd.snd.snd.snd.snd.snd.snd.snd.snd.fst, y1.snd.snd.snd.snd.snd.snd.snd.snd.snd.snd.snd.snd.snd.snd.snd.snd.snd.snd.snd.fst, y1.snd.snd.snd.snd.snd.snd.snd.snd.snd.snd.snd.snd.snd.snd.snd.snd.snd.snd.snd.snd.fst, y1.snd.snd.snd.snd.snd.snd.snd.snd.snd.snd.snd.snd.snd.snd.snd.snd.snd.snd.snd.snd.snd.fst, ()))
  ) (fun z2 =>
   some (z2)
  ) (y0)
def f70.ins : Shape := ⟨[(0, .c (.int .i64))], []⟩
def f70.outs : List Shape := [⟨[(0, .agg [.int .i64, .int .i64, .int .i64, .int .i64, .int .i64, .int .i64, .int .i64, .int .i64, .int .i64, .int .i64, .int .i64])], []⟩]
def f70.S : FnSpec := ⟨f70.ins, f70.outs, [], fun x => f70 x.1⟩
def f70.E (fuel : Nat) : Env := ⟨tis, [], [], [(13, ⟨[(2, .c (.ptr 0 0)), (3, .c (.ptr 1 0))], [(0, .box [.int .i64, .int .i64, .int .i64, .int .i64, .int .i64, .int .i64, .int .i64, .int .i64, .int .i64, .int .i64, .int .i64]), (1, .box [.int .i64, .int .i64, .int .i64, .int .i64, .int .i64, .int .i64, .int .i64, .int .i64, .int .i64, .int .i64, .int .i64])]⟩)], [], [], 0, [], fuel⟩
theorem f70.run : ∀ x, runFn (f70.E 100000000000000000000) Go.Proofs.Try.f70 ((Go.Proofs.Try.f70.body).getD .skip) f70.S x = f70.S.f x := by intro x; kernel_rfl
theorem f70.sound : Sound Go.Proofs.Try.prog 70 f70.S := sound_of_run (fun _ => f70.E 100000000000000000000) (by kernel_rfl) (by kernel_rfl) (by kernel_rfl) orders (fun _ => ⟨tis_ok, EqsOk.nil _, FnsOk.nil⟩) (fun _ => rfl) (by kernel_rfl) (by kernel_rfl) (fun x r h => (f70.run x).trans h)
/-! f45: (*adit/gen.maker).monsters -/
def f45.L1 (x : Int × Int × Int × Int × List Int × List Int × List Int × List (Int × Int × Int × Int × Int × Int × Int × Int × Int × Int × Int) × Unit) : Option (Int × Int × List Int × List Int × List (Int × Int × Int × Int × Int × Int × Int × Int × Int × Int × Int) × Unit) :=
 it (X := Int × Int × Int × Int × List Int × List Int × List Int × List (Int × Int × Int × Int × Int × Int × Int × Int × Int × Int × Int) × Unit) (fun rec x =>
 bif Decidable.decide (x.snd.fst < x.fst) then
  Option.bind (f69 ((x.snd.snd.snd.snd.fst, x.snd.snd.snd.snd.snd.snd.snd.fst, []), x.snd.snd.fst, x.snd.snd.snd.fst, x.snd.snd.snd.snd.snd.fst) 4 x.snd.snd.snd.snd.snd.snd.fst) fun y0 =>
   bif (↑(List.length y0.fst) : Int) == 0 then
    some ((x.snd.snd.fst, x.snd.snd.snd.fst, x.snd.snd.snd.snd.fst, x.snd.snd.snd.snd.snd.fst, x.snd.snd.snd.snd.snd.snd.snd.fst, ()))
   else
    Option.bind (f43 ((x.snd.snd.snd.snd.fst, x.snd.snd.snd.snd.snd.snd.snd.fst, []), x.snd.snd.fst, x.snd.snd.snd.fst, x.snd.snd.snd.snd.snd.fst) (Go.IntKind.wrap Go.IntKind.i64 (7 + x.snd.fst)) 0 (↑(List.length y0.fst) : Int)) fun y1 =>
     bif inRange y1.fst (List.length y0.fst) then
      bif Decidable.decide (List.length x.snd.snd.snd.snd.snd.snd.fst + 1 ≤ limit 8) then
       Option.bind (f43 ((x.snd.snd.snd.snd.fst, x.snd.snd.snd.snd.snd.snd.snd.fst, []), x.snd.snd.fst, x.snd.snd.snd.fst, x.snd.snd.snd.snd.snd.fst) (Go.IntKind.wrap Go.IntKind.i64 (16 + x.snd.fst)) 1 (minI (Go.IntKind.wrap Go.IntKind.i64 (x.snd.snd.snd.fst + 1)) 3)) fun y2 =>
        Option.bind (f70 (Go.IntKind.wrap Go.IntKind.i64 (2 + y2.fst))) fun y3 =>
         bif Decidable.decide (List.length x.snd.snd.snd.snd.snd.snd.snd.fst + 1 ≤ limit 88) then
          rec (x.fst, Go.IntKind.wrap Go.IntKind.i64 (x.snd.fst + 1), x.snd.snd.fst, x.snd.snd.snd.fst, x.snd.snd.snd.snd.fst, x.snd.snd.snd.snd.snd.fst, x.snd.snd.snd.snd.snd.snd.fst ++ [List.getD y0.fst (Int.toNat y1.fst) 0], x.snd.snd.snd.snd.snd.snd.snd.fst ++ [(y3.fst, y3.snd.fst, y3.snd.snd.fst, Int.tmod (List.getD y0.fst (Int.toNat y1.fst) 0) 24, Go.IntKind.wrap Go.IntKind.i64 (Int.tdiv (List.getD y0.fst (Int.toNat y1.fst) 0) 24), y3.snd.snd.snd.snd.snd.fst, y3.snd.snd.snd.snd.snd.snd.fst, y3.snd.snd.snd.snd.snd.snd.snd.fst, y3.snd.snd.snd.snd.snd.snd.snd.snd.fst, y3.snd.snd.snd.snd.snd.snd.snd.snd.snd.fst, y3.snd.snd.snd.snd.snd.snd.snd.snd.snd.snd.fst)], ())
         else
          none
      else
       none
     else
      none
 else
  some ((x.snd.snd.fst, x.snd.snd.snd.fst, x.snd.snd.snd.snd.fst, x.snd.snd.snd.snd.snd.fst, x.snd.snd.snd.snd.snd.snd.snd.fst, ()))
 ) (100000000000000000000) (x)
def f45 (a0 : Int) (a1 : Int) (a2 : List Int) (a3 : List Int) : Option (Int × Int × List Int × List Int × List (Int × Int × Int × Int × Int × Int × Int × Int × Int × Int × Int) × Unit) :=
 f45.L1 ((Go.IntKind.wrap Go.IntKind.i64 (a1 + 2), 0, a0, a1, a2, a3, [], [], ()))
def f45.ins : Shape := ⟨[(0, .c (.ptr 0 0))], [(0, .box [.own 1, .nils, .nils, .int .i64, .int .i64, .own 2]), (1, .arr (.int .u8)), (2, .arr (.int .i64))]⟩
def f45.outs : List Shape := [⟨[], [(0, .box [.own 1, .own 3, .nils, .int .i64, .int .i64, .own 2]), (1, .arr (.int .u8)), (2, .arr (.int .i64)), (3, .arr (.prod (.int .i64) (.prod (.int .i64) (.prod (.int .i64) (.prod (.int .i64) (.prod (.int .i64) (.prod (.int .i64) (.prod (.int .i64) (.prod (.int .i64) (.prod (.int .i64) (.prod (.int .i64) (.int .i64))))))))))))]⟩]
def f45.S : FnSpec := ⟨f45.ins, f45.outs, [0, 1, 2], fun x => f45 x.1 x.2.1 x.2.2.1 x.2.2.2.1⟩
def f45.E (fuel : Nat) : Env := ⟨tis, [(43, f43.S), (69, f69.S), (70, f70.S)], [], [], [(3, ⟨[(0, .c (.ptr 0 0)), (2, .c (.own 3)), (11, .c (.int .i64)), (12, .c (.int .i64))], [(0, .box [.own 1, .own 4, .nils, .int .i64, .int .i64, .own 2]), (1, .arr (.int .u8)), (2, .arr (.int .i64)), (3, .arr (.int .i64)), (4, .arr (.prod (.int .i64) (.prod (.int .i64) (.prod (.int .i64) (.prod (.int .i64) (.prod (.int .i64) (.prod (.int .i64) (.prod (.int .i64) (.prod (.int .i64) (.prod (.int .i64) (.prod (.int .i64) (.int .i64))))))))))))]⟩)], [], 3, [0, 1, 2], fuel⟩
theorem f45.run : ∀ x, runFn (f45.E 100000000000000000000) Go.Proofs.Try.f45 ((Go.Proofs.Try.f45.body).getD .skip) f45.S x = f45.S.f x := by intro x; kernel_rfl
theorem f45.sound : Sound Go.Proofs.Try.prog 45 f45.S := sound_of_run (fun _ => f45.E 100000000000000000000) (by kernel_rfl) (by kernel_rfl) (by kernel_rfl) orders (fun _ => ⟨tis_ok, EqsOk.nil _, (FnsOk.cons f43.sound (FnsOk.cons f69.sound (FnsOk.cons f70.sound FnsOk.nil)))⟩) (fun _ => rfl) (by kernel_rfl) (by kernel_rfl) (fun x r h => (f45.run x).trans h)
/-! f80: bytes.IndexByte -/
def f80 (a0 : List Int) (a1 : Int) : Option (Int × Unit) := idxF a0 a1
def f80.S : FnSpec := ⟨idxIns, idxOuts, [], fun x => f80 x.1 x.2.1⟩
def f80.E : Env := ⟨tis, [], [], [], [], [], 0, [], 1⟩
theorem f80.sound : Sound Go.Proofs.Try.prog 80 f80.S := index_sound (fn := Go.Proofs.Try.f80) (fn2 := Go.Proofs.Try.f84) (f2 := 84) (t := 23) (u := 5) (q := 3) f80.E (by kernel_rfl) (by kernel_rfl) (by kernel_rfl) orders (by kernel_rfl) (by kernel_rfl) (by kernel_rfl) (by kernel_rfl) (by kernel_rfl) (by kernel_rfl) ⟨tis_ok, EqsOk.nil _, FnsOk.nil⟩ rfl (by intro l c A K; kernel_rfl) (by intro l c n; kernel_rfl)
/-! f71: adit/grid.Find -/
def f71 (a0 : List Int) (a1 : Int) : Option (Int × Unit) :=
 bif Decidable.decide (a1 < 0) then
  some ((-1, ()))
 else
  bif Decidable.decide (a1 > 255) then
   some ((-1, ()))
  else
   bif Decidable.decide ((0 : Int) ≤ 0 ∧ 0 ≤ minI (↑(List.length a0) : Int) 384 ∧ minI (↑(List.length a0) : Int) 384 ≤ (↑(List.length a0) : Int)) then
    Option.bind (f80 (List.drop 0 (List.take (Int.toNat (minI (↑(List.length a0) : Int) 384)) a0)) (Go.IntKind.wrap Go.IntKind.u8 a1)) fun y0 =>
     some ((y0.fst, ()))
   else
    none
def f71.ins : Shape := ⟨[(0, .c (.row (.int .u8))), (1, .c (.int .i64))], []⟩
def f71.outs : List Shape := [⟨[(0, .c (.int .i64))], []⟩]
def f71.S : FnSpec := ⟨f71.ins, f71.outs, [], fun x => f71 x.1 x.2.1⟩
def f71.E (fuel : Nat) : Env := ⟨tis, [(80, f80.S)], [], [], [], [], 0, [], fuel⟩
theorem f71.run : ∀ x, runFn (f71.E 100000000000000000000) Go.Proofs.Try.f71 ((Go.Proofs.Try.f71.body).getD .skip) f71.S x = f71.S.f x := by intro x; kernel_rfl
theorem f71.sound : Sound Go.Proofs.Try.prog 71 f71.S := sound_of_run (fun _ => f71.E 100000000000000000000) (by kernel_rfl) (by kernel_rfl) (by kernel_rfl) orders (fun _ => ⟨tis_ok, EqsOk.nil _, (FnsOk.cons f80.sound FnsOk.nil)⟩) (fun _ => rfl) (by kernel_rfl) (by kernel_rfl) (fun x r h => (f71.run x).trans h)
/-! f46: (*adit/gen.maker).items -/
def f46.L1 (x : Int × Int × Int × List Int × List (Int × Int × Int × Int × Int × Int × Int × Int × Int × Int × Int) × List Int × List (Int × Int × Int × Int) × Unit) : Option (Int × Int × List Int × List (Int × Int × Int × Int × Int × Int × Int × Int × Int × Int × Int) × List Int × List (Int × Int × Int × Int) × Unit) :=
 it (X := Int × Int × Int × List Int × List (Int × Int × Int × Int × Int × Int × Int × Int × Int × Int × Int) × List Int × List (Int × Int × Int × Int) × Unit) (fun rec x =>
 bif Decidable.decide (x.fst < 3) then
  Option.bind (f43 ((x.snd.snd.snd.fst, x.snd.snd.snd.snd.fst, x.snd.snd.snd.snd.snd.snd.fst), x.snd.fst, x.snd.snd.fst, x.snd.snd.snd.snd.snd.fst) (Go.IntKind.wrap Go.IntKind.i64 (50 + x.fst)) 1 3) fun y0 =>
   bif Decidable.decide (List.length x.snd.snd.snd.snd.snd.snd.fst + 1 ≤ limit 32) then
    rec (Go.IntKind.wrap Go.IntKind.i64 (x.fst + 1), x.snd.fst, x.snd.snd.fst, x.snd.snd.snd.fst, x.snd.snd.snd.snd.fst, x.snd.snd.snd.snd.snd.fst, x.snd.snd.snd.snd.snd.snd.fst ++ [(Go.IntKind.wrap Go.IntKind.i64 (1 + y0.fst), 4, x.fst, 0)], ())
   else
    none
 else
  some ((x.snd.fst, x.snd.snd.fst, x.snd.snd.snd.fst, x.snd.snd.snd.snd.fst, x.snd.snd.snd.snd.snd.fst, x.snd.snd.snd.snd.snd.snd.fst, ()))
 ) (100000000000000000000) (x)
def f46.L2 (x : Int × Int × Int × List Int × List (Int × Int × Int × Int × Int × Int × Int × Int × Int × Int × Int) × List Int × List Int × List (Int × Int × Int × Int) × Unit) : Option (Int × Int × List Int × List (Int × Int × Int × Int × Int × Int × Int × Int × Int × Int × Int) × List Int × List (Int × Int × Int × Int) × Unit) :=
 it (X := Int × Int × Int × List Int × List (Int × Int × Int × Int × Int × Int × Int × Int × Int × Int × Int) × List Int × List Int × List (Int × Int × Int × Int) × Unit) (fun rec x =>
 bif Decidable.decide (x.fst < 4) then
  Option.bind (f69 ((x.snd.snd.snd.fst, x.snd.snd.snd.snd.fst, x.snd.snd.snd.snd.snd.snd.snd.fst), x.snd.fst, x.snd.snd.fst, x.snd.snd.snd.snd.snd.fst) (-1) x.snd.snd.snd.snd.snd.snd.fst) fun y0 =>
   bif (↑(List.length y0.fst) : Int) == 0 then
    rec (Go.IntKind.wrap Go.IntKind.i64 (x.fst + 1), x.snd.fst, x.snd.snd.fst, x.snd.snd.snd.fst, x.snd.snd.snd.snd.fst, x.snd.snd.snd.snd.snd.fst, x.snd.snd.snd.snd.snd.snd.fst, x.snd.snd.snd.snd.snd.snd.snd.fst, ())
   else
    Option.bind (f43 ((x.snd.snd.snd.fst, x.snd.snd.snd.snd.fst, x.snd.snd.snd.snd.snd.snd.snd.fst), x.snd.fst, x.snd.snd.fst, x.snd.snd.snd.snd.snd.fst) (Go.IntKind.wrap Go.IntKind.i64 (40 + x.fst)) 0 (↑(List.length y0.fst) : Int)) fun y1 =>
     bif inRange y1.fst (List.length y0.fst) then
      bif Decidable.decide (List.length x.snd.snd.snd.snd.snd.snd.fst + 1 ≤ limit 8) then
       Option.bind (f43 ((x.snd.snd.snd.fst, x.snd.snd.snd.snd.fst, x.snd.snd.snd.snd.snd.snd.snd.fst), x.snd.fst, x.snd.snd.fst, x.snd.snd.snd.snd.snd.fst) (Go.IntKind.wrap Go.IntKind.i64 (40 + x.fst)) 1 4) fun y2 =>
        bif Decidable.decide (List.length x.snd.snd.snd.snd.snd.snd.snd.fst + 1 ≤ limit 32) then
         rec (Go.IntKind.wrap Go.IntKind.i64 (x.fst + 1), x.snd.fst, x.snd.snd.fst, x.snd.snd.snd.fst, x.snd.snd.snd.snd.fst, x.snd.snd.snd.snd.snd.fst, x.snd.snd.snd.snd.snd.snd.fst ++ [List.getD y0.fst (Int.toNat y1.fst) 0], x.snd.snd.snd.snd.snd.snd.snd.fst ++ [(Go.IntKind.wrap Go.IntKind.i64 (1 + y2.fst), 1, Int.tmod (List.getD y0.fst (Int.toNat y1.fst) 0) 24, Go.IntKind.wrap Go.IntKind.i64 (Int.tdiv (List.getD y0.fst (Int.toNat y1.fst) 0) 24))], ())
        else
         none
      else
       none
     else
      none
 else
  Option.bind (f71 x.snd.snd.snd.fst 5) fun y3 =>
   bif Decidable.decide (y3.fst < 0) then
    some ((x.snd.fst, x.snd.snd.fst, x.snd.snd.snd.fst, x.snd.snd.snd.snd.fst, x.snd.snd.snd.snd.snd.fst, x.snd.snd.snd.snd.snd.snd.snd.fst, ()))
   else
    f46.L1 ((0, x.snd.fst, x.snd.snd.fst, x.snd.snd.snd.fst, x.snd.snd.snd.snd.fst, x.snd.snd.snd.snd.snd.fst, x.snd.snd.snd.snd.snd.snd.snd.fst, ()))
 ) (100000000000000000000) (x)
def f46 (a0 : Int) (a1 : Int) (a2 : List Int) (a3 : List (Int × Int × Int × Int × Int × Int × Int × Int × Int × Int × Int)) (a4 : List Int) : Option (Int × Int × List Int × List (Int × Int × Int × Int × Int × Int × Int × Int × Int × Int × Int) × List Int × List (Int × Int × Int × Int) × Unit) :=
 f46.L2 ((0, a0, a1, a2, a3, a4, [], [], ()))
def f46.ins : Shape := ⟨[(0, .c (.ptr 0 0))], [(0, .box [.own 1, .own 2, .nils, .int .i64, .int .i64, .own 3]), (1, .arr (.int .u8)), (2, .arr (.prod (.int .i64) (.prod (.int .i64) (.prod (.int .i64) (.prod (.int .i64) (.prod (.int .i64) (.prod (.int .i64) (.prod (.int .i64) (.prod (.int .i64) (.prod (.int .i64) (.prod (.int .i64) (.int .i64)))))))))))), (3, .arr (.int .i64))]⟩
def f46.outs : List Shape := [⟨[], [(0, .box [.own 1, .own 2, .own 4, .int .i64, .int .i64, .own 3]), (1, .arr (.int .u8)), (2, .arr (.prod (.int .i64) (.prod (.int .i64) (.prod (.int .i64) (.prod (.int .i64) (.prod (.int .i64) (.prod (.int .i64) (.prod (.int .i64) (.prod (.int .i64) (.prod (.int .i64) (.prod (.int .i64) (.int .i64)))))))))))), (3, .arr (.int .i64)), (4, .arr (.prod (.int .i64) (.prod (.int .i64) (.prod (.int .i64) (.int .i64)))))]⟩]
def f46.S : FnSpec := ⟨f46.ins, f46.outs, [0, 1, 2, 3], fun x => f46 x.1 x.2.1 x.2.2.1 x.2.2.2.1 x.2.2.2.2.1⟩
def f46.E (fuel : Nat) : Env := ⟨tis, [(43, f43.S), (69, f69.S), (71, f71.S)], [], [], [(3, ⟨[(0, .c (.ptr 0 0)), (2, .c (.own 4)), (7, .c (.int .i64))], [(0, .box [.own 1, .own 2, .own 5, .int .i64, .int .i64, .own 3]), (1, .arr (.int .u8)), (2, .arr (.prod (.int .i64) (.prod (.int .i64) (.prod (.int .i64) (.prod (.int .i64) (.prod (.int .i64) (.prod (.int .i64) (.prod (.int .i64) (.prod (.int .i64) (.prod (.int .i64) (.prod (.int .i64) (.int .i64)))))))))))), (3, .arr (.int .i64)), (4, .arr (.int .i64)), (5, .arr (.prod (.int .i64) (.prod (.int .i64) (.prod (.int .i64) (.int .i64)))))]⟩), (13, ⟨[(0, .c (.ptr 0 0)), (58, .c (.int .i64))], [(0, .box [.own 1, .own 2, .own 4, .int .i64, .int .i64, .own 3]), (1, .arr (.int .u8)), (2, .arr (.prod (.int .i64) (.prod (.int .i64) (.prod (.int .i64) (.prod (.int .i64) (.prod (.int .i64) (.prod (.int .i64) (.prod (.int .i64) (.prod (.int .i64) (.prod (.int .i64) (.prod (.int .i64) (.int .i64)))))))))))), (3, .arr (.int .i64)), (4, .arr (.prod (.int .i64) (.prod (.int .i64) (.prod (.int .i64) (.int .i64)))))]⟩)], [], 4, [0, 1, 2, 3], fuel⟩
theorem f46.run : ∀ x, runFn (f46.E 100000000000000000000) Go.Proofs.Try.f46 ((Go.Proofs.Try.f46.body).getD .skip) f46.S x = f46.S.f x := by intro x; kernel_rfl
theorem f46.sound : Sound Go.Proofs.Try.prog 46 f46.S := sound_of_run (fun _ => f46.E 100000000000000000000) (by kernel_rfl) (by kernel_rfl) (by kernel_rfl) orders (fun _ => ⟨tis_ok, EqsOk.nil _, (FnsOk.cons f43.sound (FnsOk.cons f69.sound (FnsOk.cons f71.sound FnsOk.nil)))⟩) (fun _ => rfl) (by kernel_rfl) (by kernel_rfl) (fun x r h => (f46.run x).trans h)
/-! f14: adit/gen.Make -/
def f14.L1 (x : Int × Int × Int × Int × Int × Int × Int × Int × Int × Int × Int × Int × Int × Int × Int × List Int × Unit) : Option (Int × List Int × List (Int × Int × Int × Int × Int × Int × Int × Int × Int × Int × Int) × List (Int × Int × Int × Int) × Unit) :=
 it (X := Int × Int × Int × Int × Int × Int × Int × Int × Int × Int × Int × Int × Int × Int × Int × List Int × Unit) (fun rec x =>
 bif Decidable.decide (x.fst < 6) then
  bif inRange (Go.IntKind.wrap Go.IntKind.i64 (x.fst - 1)) 6 then
   bif inRange x.fst 6 then
    Option.bind (f43 ((x.snd.snd.snd.snd.snd.snd.snd.snd.snd.snd.snd.snd.snd.snd.snd.fst, [], []), x.snd.fst, x.snd.snd.fst, []) x.fst 4 2) fun y0 =>
     Option.bind (f42 (List.getD [x.snd.snd.snd.fst, x.snd.snd.snd.snd.snd.fst, x.snd.snd.snd.snd.snd.snd.snd.fst, x.snd.snd.snd.snd.snd.snd.snd.snd.snd.fst, x.snd.snd.snd.snd.snd.snd.snd.snd.snd.snd.snd.fst, x.snd.snd.snd.snd.snd.snd.snd.snd.snd.snd.snd.snd.snd.fst] (Int.toNat (Go.IntKind.wrap Go.IntKind.i64 (x.fst - 1))) 0) (List.getD [x.snd.snd.snd.snd.fst, x.snd.snd.snd.snd.snd.snd.fst, x.snd.snd.snd.snd.snd.snd.snd.snd.fst, x.snd.snd.snd.snd.snd.snd.snd.snd.snd.snd.fst, x.snd.snd.snd.snd.snd.snd.snd.snd.snd.snd.snd.snd.fst, x.snd.snd.snd.snd.snd.snd.snd.snd.snd.snd.snd.snd.snd.snd.fst] (Int.toNat (Go.IntKind.wrap Go.IntKind.i64 (x.fst - 1))) 0) (List.getD [x.snd.snd.snd.fst, x.snd.snd.snd.snd.snd.fst, x.snd.snd.snd.snd.snd.snd.snd.fst, x.snd.snd.snd.snd.snd.snd.snd.snd.snd.fst, x.snd.snd.snd.snd.snd.snd.snd.snd.snd.snd.snd.fst, x.snd.snd.snd.snd.snd.snd.snd.snd.snd.snd.snd.snd.snd.fst] (Int.toNat x.fst) 0) (List.getD [x.snd.snd.snd.snd.fst, x.snd.snd.snd.snd.snd.snd.fst, x.snd.snd.snd.snd.snd.snd.snd.snd.fst, x.snd.snd.snd.snd.snd.snd.snd.snd.snd.snd.fst, x.snd.snd.snd.snd.snd.snd.snd.snd.snd.snd.snd.snd.fst, x.snd.snd.snd.snd.snd.snd.snd.snd.snd.snd.snd.snd.snd.snd.fst] (Int.toNat x.fst) 0) (y0.fst == 0) x.snd.fst x.snd.snd.fst x.snd.snd.snd.snd.snd.snd.snd.snd.snd.snd.snd.snd.snd.snd.snd.fst) fun y1 =>
      rec (Go.IntKind.wrap Go.IntKind.i64 (x.fst + 1), y1.fst, y1.snd.fst, x.snd.snd.snd.fst, x.snd.snd.snd.snd.fst, x.snd.snd.snd.snd.snd.fst, x.snd.snd.snd.snd.snd.snd.fst, x.snd.snd.snd.snd.snd.snd.snd.fst, x.snd.snd.snd.snd.snd.snd.snd.snd.fst, x.snd.snd.snd.snd.snd.snd.snd.snd.snd.fst, x.snd.snd.snd.snd.snd.snd.snd.snd.snd.snd.fst, x.snd.snd.snd.snd.snd.snd.snd.snd.snd.snd.snd.fst, x.snd.snd.snd.snd.snd.snd.snd.snd.snd.snd.snd.snd.fst, x.snd.snd.snd.snd.snd.snd.snd.snd.snd.snd.snd.snd.snd.fst, x.snd.snd.snd.snd.snd.snd.snd.snd.snd.snd.snd.snd.snd.snd.fst, y1.snd.snd.fst, ())
   else
    none
  else
   none
 else
  Option.bind (f44 x.snd.snd.snd.fst x.snd.snd.snd.snd.fst x.snd.fst x.snd.snd.fst x.snd.snd.snd.snd.snd.snd.snd.snd.snd.snd.snd.snd.snd.snd.snd.fst) fun y2 =>
   Option.bind (f45 y2.fst y2.snd.fst y2.snd.snd.fst y2.snd.snd.snd.fst) fun y3 =>
    Option.bind (f46 y3.fst y3.snd.fst y3.snd.snd.fst y3.snd.snd.snd.snd.fst y3.snd.snd.snd.fst) fun y4 =>
     some ((0, y4.snd.snd.fst, y4.snd.snd.snd.fst, y4.snd.snd.snd.snd.snd.fst, ()))
 ) (100000000000000000000) (x)
def f14.L2 (x : Int × Int × Int × Int × Int × Int × Int × Int × Int × Int × Int × Int × Int × Int × Int × List Int × Unit) : Option (Int × List Int × List (Int × Int × Int × Int × Int × Int × Int × Int × Int × Int × Int) × List (Int × Int × Int × Int) × Unit) :=
 it (X := Int × Int × Int × Int × Int × Int × Int × Int × Int × Int × Int × Int × Int × Int × Int × List Int × Unit) (fun rec x =>
 bif Decidable.decide (x.fst < 6) then
  Option.bind (f41 x.fst x.snd.fst x.snd.snd.fst x.snd.snd.snd.snd.snd.snd.snd.snd.snd.snd.snd.snd.snd.snd.snd.fst) fun y0 =>
   bif inRange x.fst 6 then
    rec (Go.IntKind.wrap Go.IntKind.i64 (x.fst + 1), y0.snd.snd.fst, y0.snd.snd.snd.fst, if Int.toNat x.fst = 0 / 2 then y0.fst else x.snd.snd.snd.fst, if Int.toNat x.fst = (0 + 1) / 2 then y0.snd.fst else x.snd.snd.snd.snd.fst, if Int.toNat x.fst = (0 + 1 + 1) / 2 then y0.fst else x.snd.snd.snd.snd.snd.fst, if Int.toNat x.fst = (0 + 1 + 1 + 1) / 2 then y0.snd.fst else x.snd.snd.snd.snd.snd.snd.fst, if Int.toNat x.fst = (0 + 1 + 1 + 1 + 1) / 2 then y0.fst else x.snd.snd.snd.snd.snd.snd.snd.fst, if Int.toNat x.fst = (0 + 1 + 1 + 1 + 1 + 1) / 2 then y0.snd.fst else x.snd.snd.snd.snd.snd.snd.snd.snd.fst, if Int.toNat x.fst = (0 + 1 + 1 + 1 + 1 + 1 + 1) / 2 then y0.fst else x.snd.snd.snd.snd.snd.snd.snd.snd.snd.fst, if Int.toNat x.fst = (0 + 1 + 1 + 1 + 1 + 1 + 1 + 1) / 2 then y0.snd.fst else x.snd.snd.snd.snd.snd.snd.snd.snd.snd.snd.fst, if Int.toNat x.fst = (0 + 1 + 1 + 1 + 1 + 1 + 1 + 1 + 1) / 2 then y0.fst else x.snd.snd.snd.snd.snd.snd.snd.snd.snd.snd.snd.fst, if Int.toNat x.fst = (0 + 1 + 1 + 1 + 1 + 1 + 1 + 1 + 1 + 1) / 2 then y0.snd.fst else x.snd.snd.snd.snd.snd.snd.snd.snd.snd.snd.snd.snd.fst, if Int.toNat x.fst = (0 + 1 + 1 + 1 + 1 + 1 + 1 + 1 + 1 + 1 + 1) / 2 then y0.fst else x.snd.snd.snd.snd.snd.snd.snd.snd.snd.snd.snd.snd.snd.fst, if Int.toNat x.fst = (0 + 1 + 1 + 1 + 1 + 1 + 1 + 1 + 1 + 1 + 1 + 1) / 2 then y0.snd.fst else x.snd.snd.snd.snd.snd.snd.snd.snd.snd.snd.snd.snd.snd.snd.fst, y0.snd.snd.snd.snd.fst, ())
   else
    none
 else
  f14.L1 ((1, x.snd.fst, x.snd.snd.fst, x.snd.snd.snd.fst, x.snd.snd.snd.snd.fst, x.snd.snd.snd.snd.snd.fst, x.snd.snd.snd.snd.snd.snd.fst, x.snd.snd.snd.snd.snd.snd.snd.fst, x.snd.snd.snd.snd.snd.snd.snd.snd.fst, x.snd.snd.snd.snd.snd.snd.snd.snd.snd.fst, x.snd.snd.snd.snd.snd.snd.snd.snd.snd.snd.fst, x.snd.snd.snd.snd.snd.snd.snd.snd.snd.snd.snd.fst, x.snd.snd.snd.snd.snd.snd.snd.snd.snd.snd.snd.snd.fst, x.snd.snd.snd.snd.snd.snd.snd.snd.snd.snd.snd.snd.snd.fst, x.snd.snd.snd.snd.snd.snd.snd.snd.snd.snd.snd.snd.snd.snd.fst, x.snd.snd.snd.snd.snd.snd.snd.snd.snd.snd.snd.snd.snd.snd.snd.fst, ()))
 ) (100000000000000000000) (x)
def f14 (a0 : Int) (a1 : Int) : Option (Int × List Int × List (Int × Int × Int × Int × Int × Int × Int × Int × Int × Int × Int) × List (Int × Int × Int × Int) × Unit) :=
 bif Decidable.decide (a1 < 1) then
  some ((1, [], [], [], ()))
 else
  bif Decidable.decide (a1 > 3) then
   some ((1, [], [], [], ()))
  else
   f14.L2 ((0, a0, a1, 0, 0, 0, 0, 0, 0, 0, 0, 0, 0, 0, 0, List.replicate 384 0, ()))
def f14.ins : Shape := ⟨[(0, .c (.int .i64)), (1, .c (.int .i64))], []⟩
def f14.outs : List Shape := [⟨[(0, .agg [.own 0, .own 1, .own 2]), (1, .c (.int .i64))], [(0, .arr (.int .u8)), (1, .arr (.prod (.int .i64) (.prod (.int .i64) (.prod (.int .i64) (.prod (.int .i64) (.prod (.int .i64) (.prod (.int .i64) (.prod (.int .i64) (.prod (.int .i64) (.prod (.int .i64) (.prod (.int .i64) (.int .i64)))))))))))), (2, .arr (.prod (.int .i64) (.prod (.int .i64) (.prod (.int .i64) (.int .i64)))))]⟩]
def f14.S : FnSpec := ⟨f14.ins, f14.outs, [], fun x => f14 x.1 x.2.1⟩
def f14.E (fuel : Nat) : Env := ⟨tis, [(43, f43.S), (41, f41.S), (42, f42.S), (44, f44.S), (45, f45.S), (46, f46.S)], [], [], [(7, ⟨[(4, .c (.ptr 0 0)), (6, .c (.ptr 1 0)), (7, .c (.ptr 2 0)), (23, .c (.int .i64))], [(0, .box [.nils, .nils, .nils]), (1, .box [.own 3, .nils, .nils, .int .i64, .int .i64, .nils]), (2, .box [.int .i64, .int .i64, .int .i64, .int .i64, .int .i64, .int .i64, .int .i64, .int .i64, .int .i64, .int .i64, .int .i64, .int .i64]), (3, .arr (.int .u8))]⟩), (12, ⟨[(4, .c (.ptr 0 0)), (6, .c (.ptr 1 0)), (7, .c (.ptr 2 0)), (9, .c (.int .i64))], [(0, .box [.nils, .nils, .nils]), (1, .box [.own 3, .nils, .nils, .int .i64, .int .i64, .nils]), (2, .box [.int .i64, .int .i64, .int .i64, .int .i64, .int .i64, .int .i64, .int .i64, .int .i64, .int .i64, .int .i64, .int .i64, .int .i64]), (3, .arr (.int .u8))]⟩)], [], 0, [], fuel⟩
theorem f14.run : ∀ x, runFn (f14.E 100000000000000000000) Go.Proofs.Try.f14 ((Go.Proofs.Try.f14.body).getD .skip) f14.S x = f14.S.f x := by intro x; kernel_rfl
theorem f14.sound : Sound Go.Proofs.Try.prog 14 f14.S := sound_of_run (fun _ => f14.E 100000000000000000000) (by kernel_rfl) (by kernel_rfl) (by kernel_rfl) orders (fun _ => ⟨tis_ok, EqsOk.nil _, (FnsOk.cons f43.sound (FnsOk.cons f41.sound (FnsOk.cons f42.sound (FnsOk.cons f44.sound (FnsOk.cons f45.sound (FnsOk.cons f46.sound FnsOk.nil))))))⟩) (fun _ => rfl) (by kernel_rfl) (by kernel_rfl) (fun x r h => (f14.run x).trans h)
/-! f19: adit/aditref3.Find -/
def f19.L1 (x : List Int × Int × Int × Unit) : Option (Int × Unit) :=
 it (X := List Int × Int × Int × Unit) (fun rec x =>
 bif Decidable.decide (x.snd.snd.fst < (↑(List.length x.fst) : Int)) then
  bif Decidable.decide (x.snd.snd.fst < 384) then
   bif inRange x.snd.snd.fst (List.length x.fst) then
    bif Go.IntKind.wrap Go.IntKind.i64 (List.getD x.fst (Int.toNat x.snd.snd.fst) 0) == x.snd.fst then
     some ((x.snd.snd.fst, ()))
    else
     rec (x.fst, x.snd.fst, Go.IntKind.wrap Go.IntKind.i64 (x.snd.snd.fst + 1), ())
   else
    none
  else
   some ((-1, ()))
 else
  some ((-1, ()))
 ) (100000000000000000000) (x)
def f19 (a0 : List Int) (a1 : Int) : Option (Int × Unit) :=
 f19.L1 ((a0, a1, 0, ()))
def f19.ins : Shape := ⟨[(0, .c (.row (.int .u8))), (1, .c (.int .i64))], []⟩
def f19.outs : List Shape := [⟨[(0, .c (.int .i64))], []⟩]
def f19.S : FnSpec := ⟨f19.ins, f19.outs, [], fun x => f19 x.1 x.2.1⟩
def f19.E (fuel : Nat) : Env := ⟨tis, [], [], [], [(3, ⟨[(0, .c (.row (.int .u8))), (1, .c (.int .i64)), (5, .c (.int .i64))], []⟩)], [], 0, [], fuel⟩
theorem f19.run : ∀ x, runFn (f19.E 100000000000000000000) Go.Proofs.Try.f19 ((Go.Proofs.Try.f19.body).getD .skip) f19.S x = f19.S.f x := by intro x; kernel_rfl
theorem f19.sound : Sound Go.Proofs.Try.prog 19 f19.S := sound_of_run (fun _ => f19.E 100000000000000000000) (by kernel_rfl) (by kernel_rfl) (by kernel_rfl) orders (fun _ => ⟨tis_ok, EqsOk.nil _, FnsOk.nil⟩) (fun _ => rfl) (by kernel_rfl) (by kernel_rfl) (fun x r h => (f19.run x).trans h)
/-! f13: adit/aditlaw4.known -/
def f13 : Option (Bool × Unit) :=
 Option.bind (f14 1 1) fun y0 =>
  Option.bind (f14 1 0) fun y1 =>
   bif y0.fst == 0 then
    bif y1.fst == 1 then
     Option.bind (f19 y0.snd.fst 3) fun y2 =>
      bif Decidable.decide (y2.fst ≥ 0) then
       Option.bind (f19 y0.snd.fst 4) fun y3 =>
        some ((Decidable.decide (y3.fst ≥ 0), ()))
      else
       some ((Bool.false, ()))
    else
     some ((Bool.false, ()))
   else
    some ((Bool.false, ()))
def f13.ins : Shape := ⟨[], []⟩
def f13.outs : List Shape := [⟨[(0, .c (.bool))], []⟩]
def f13.S : FnSpec := ⟨f13.ins, f13.outs, [], fun _ => f13⟩
def f13.E (fuel : Nat) : Env := ⟨tis, [(14, f14.S), (19, f19.S)], [], [], [], [], 0, [], fuel⟩
theorem f13.run : ∀ x, runFn (f13.E 100000000000000000000) Go.Proofs.Try.f13 ((Go.Proofs.Try.f13.body).getD .skip) f13.S x = f13.S.f x := by intro x; kernel_rfl
theorem f13.sound : Sound Go.Proofs.Try.prog 13 f13.S := sound_of_run (fun _ => f13.E 100000000000000000000) (by kernel_rfl) (by kernel_rfl) (by kernel_rfl) orders (fun _ => ⟨tis_ok, EqsOk.nil _, (FnsOk.cons f14.sound (FnsOk.cons f19.sound FnsOk.nil))⟩) (fun _ => rfl) (by kernel_rfl) (by kernel_rfl) (fun x r h => (f13.run x).trans h)
/-! f81: adit/aditref2.m -/
def f81 (a0 : Int) : Option (Int × Unit) :=
 some ((Go.IntKind.wrap Go.IntKind.u64 (↑(BitVec.toNat (BitVec.ofInt (Go.IntKind.bits Go.IntKind.u64) (Go.IntKind.wrap Go.IntKind.u64 (Go.IntKind.wrap Go.IntKind.u64 (↑(BitVec.toNat (BitVec.ofInt (Go.IntKind.bits Go.IntKind.u64) (Go.IntKind.wrap Go.IntKind.u64 (Go.IntKind.wrap Go.IntKind.u64 (↑(BitVec.toNat (BitVec.ofInt (Go.IntKind.bits Go.IntKind.u64) a0 ^^^ BitVec.ofInt (Go.IntKind.bits Go.IntKind.u64) (Int.fdiv a0 (2 ^ Min.min 30 (Go.IntKind.bits Go.IntKind.u64))))) : Int) * 13787848793156543929)) ^^^ BitVec.ofInt (Go.IntKind.bits Go.IntKind.u64) (Int.fdiv (Go.IntKind.wrap Go.IntKind.u64 (Go.IntKind.wrap Go.IntKind.u64 (↑(BitVec.toNat (BitVec.ofInt (Go.IntKind.bits Go.IntKind.u64) a0 ^^^ BitVec.ofInt (Go.IntKind.bits Go.IntKind.u64) (Int.fdiv a0 (2 ^ Min.min 30 (Go.IntKind.bits Go.IntKind.u64))))) : Int) * 13787848793156543929)) (2 ^ Min.min 27 (Go.IntKind.bits Go.IntKind.u64))))) : Int) * 10723151780598845931)) ^^^ BitVec.ofInt (Go.IntKind.bits Go.IntKind.u64) (Int.fdiv (Go.IntKind.wrap Go.IntKind.u64 (Go.IntKind.wrap Go.IntKind.u64 (↑(BitVec.toNat (BitVec.ofInt (Go.IntKind.bits Go.IntKind.u64) (Go.IntKind.wrap Go.IntKind.u64 (Go.IntKind.wrap Go.IntKind.u64 (↑(BitVec.toNat (BitVec.ofInt (Go.IntKind.bits Go.IntKind.u64) a0 ^^^ BitVec.ofInt (Go.IntKind.bits Go.IntKind.u64) (Int.fdiv a0 (2 ^ Min.min 30 (Go.IntKind.bits Go.IntKind.u64))))) : Int) * 13787848793156543929)) ^^^ BitVec.ofInt (Go.IntKind.bits Go.IntKind.u64) (Int.fdiv (Go.IntKind.wrap Go.IntKind.u64 (Go.IntKind.wrap Go.IntKind.u64 (↑(BitVec.toNat (BitVec.ofInt (Go.IntKind.bits Go.IntKind.u64) a0 ^^^ BitVec.ofInt (Go.IntKind.bits Go.IntKind.u64) (Int.fdiv a0 (2 ^ Min.min 30 (Go.IntKind.bits Go.IntKind.u64))))) : Int) * 13787848793156543929)) (2 ^ Min.min 27 (Go.IntKind.bits Go.IntKind.u64))))) : Int) * 10723151780598845931)) (2 ^ Min.min 31 (Go.IntKind.bits Go.IntKind.u64))))) : Int), ()))
def f81.ins : Shape := ⟨[(0, .c (.int .u64))], []⟩
def f81.outs : List Shape := [⟨[(0, .c (.int .u64))], []⟩]
def f81.S : FnSpec := ⟨f81.ins, f81.outs, [], fun x => f81 x.1⟩
def f81.E (fuel : Nat) : Env := ⟨tis, [], [], [], [], [], 0, [], fuel⟩
theorem f81.run : ∀ x, runFn (f81.E 100000000000000000000) Go.Proofs.Try.f81 ((Go.Proofs.Try.f81.body).getD .skip) f81.S x = f81.S.f x := by intro x; kernel_rfl
theorem f81.sound : Sound Go.Proofs.Try.prog 81 f81.S := sound_of_run (fun _ => f81.E 100000000000000000000) (by kernel_rfl) (by kernel_rfl) (by kernel_rfl) orders (fun _ => ⟨tis_ok, EqsOk.nil _, FnsOk.nil⟩) (fun _ => rfl) (by kernel_rfl) (by kernel_rfl) (fun x r h => (f81.run x).trans h)
/-! f73: adit/aditref2.Mix -/
def f73.L1 (x : List Int × Int × Int × Unit) : Option (Int × Unit) :=
 it (X := List Int × Int × Int × Unit) (fun rec x =>
 bif Decidable.decide (x.snd.snd.fst < (↑(List.length x.fst) : Int)) then
  bif inRange x.snd.snd.fst (List.length x.fst) then
   Option.bind (f81 (Go.IntKind.wrap Go.IntKind.u64 (Go.IntKind.wrap Go.IntKind.u64 (↑(BitVec.toNat (BitVec.ofInt (Go.IntKind.bits Go.IntKind.u64) x.snd.fst ^^^ BitVec.ofInt (Go.IntKind.bits Go.IntKind.u64) (Go.IntKind.wrap Go.IntKind.u64 (List.getD x.fst (Int.toNat x.snd.snd.fst) 0)))) : Int) + 11400714819323198485))) fun y0 =>
    rec (x.fst, y0.fst, Go.IntKind.wrap Go.IntKind.i64 (x.snd.snd.fst + 1), ())
  else
   none
 else
  some ((x.snd.fst, ()))
 ) (100000000000000000000) (x)
def f73 (a0 : Int) (a1 : List Int) : Option (Int × Unit) :=
 Option.bind (f81 (Go.IntKind.wrap Go.IntKind.u64 (Go.IntKind.wrap Go.IntKind.u64 a0 + 11400714819323198485))) fun y0 =>
  f73.L1 ((a1, y0.fst, 0, ()))
def f73.ins : Shape := ⟨[(0, .c (.int .i64)), (1, .c (.row (.int .i64)))], []⟩
def f73.outs : List Shape := [⟨[(0, .c (.int .u64))], []⟩]
def f73.S : FnSpec := ⟨f73.ins, f73.outs, [], fun x => f73 x.1 x.2.1⟩
def f73.E (fuel : Nat) : Env := ⟨tis, [(81, f81.S)], [], [], [(4, ⟨[(1, .c (.row (.int .i64))), (5, .c (.int .u64)), (6, .c (.int .i64))], []⟩)], [], 0, [], fuel⟩
theorem f73.run : ∀ x, runFn (f73.E 100000000000000000000) Go.Proofs.Try.f73 ((Go.Proofs.Try.f73.body).getD .skip) f73.S x = f73.S.f x := by intro x; kernel_rfl
theorem f73.sound : Sound Go.Proofs.Try.prog 73 f73.S := sound_of_run (fun _ => f73.E 100000000000000000000) (by kernel_rfl) (by kernel_rfl) (by kernel_rfl) orders (fun _ => ⟨tis_ok, EqsOk.nil _, (FnsOk.cons f81.sound FnsOk.nil)⟩) (fun _ => rfl) (by kernel_rfl) (by kernel_rfl) (fun x r h => (f73.run x).trans h)
/-! f56: adit/aditref2.Die -/
def f56 (a0 : Int) (a1 : Int) (a2 : List Int) : Option (Int × Unit) :=
 bif Decidable.decide (a0 < 1) then
  some ((0, ()))
 else
  Option.bind (f73 a1 a2) fun y0 =>
   bif Decidable.decide (Go.IntKind.wrap Go.IntKind.u64 a0 = 0) then
    none
   else
    some ((Go.IntKind.wrap Go.IntKind.i64 (Int.tmod y0.fst (Go.IntKind.wrap Go.IntKind.u64 a0)), ()))
def f56.ins : Shape := ⟨[(0, .c (.int .i64)), (1, .c (.int .i64)), (2, .c (.row (.int .i64)))], []⟩
def f56.outs : List Shape := [⟨[(0, .c (.int .i64))], []⟩]
def f56.S : FnSpec := ⟨f56.ins, f56.outs, [], fun x => f56 x.1 x.2.1 x.2.2.1⟩
def f56.E (fuel : Nat) : Env := ⟨tis, [(73, f73.S)], [], [], [], [], 0, [], fuel⟩
theorem f56.run : ∀ x, runFn (f56.E 100000000000000000000) Go.Proofs.Try.f56 ((Go.Proofs.Try.f56.body).getD .skip) f56.S x = f56.S.f x := by intro x; kernel_rfl
theorem f56.sound : Sound Go.Proofs.Try.prog 56 f56.S := sound_of_run (fun _ => f56.E 100000000000000000000) (by kernel_rfl) (by kernel_rfl) (by kernel_rfl) orders (fun _ => ⟨tis_ok, EqsOk.nil _, (FnsOk.cons f73.sound FnsOk.nil)⟩) (fun _ => rfl) (by kernel_rfl) (by kernel_rfl) (fun x r h => (f56.run x).trans h)
/-! f47: adit/aditref4.d -/
def f47 (a0 : Int) (a1 : Int) (a2 : Int) (a3 : Int) (a4 : Int) : Option (Int × Unit) :=
 Option.bind (f56 a4 a0 [a1, a2, a3]) fun y0 =>
  some ((y0.fst, ()))
def f47.ins : Shape := ⟨[(0, .c (.int .i64)), (1, .c (.int .i64)), (2, .c (.int .i64)), (3, .c (.int .i64)), (4, .c (.int .i64))], []⟩
def f47.outs : List Shape := [⟨[(0, .c (.int .i64))], []⟩]
def f47.S : FnSpec := ⟨f47.ins, f47.outs, [], fun x => f47 x.1 x.2.1 x.2.2.1 x.2.2.2.1 x.2.2.2.2.1⟩
def f47.E (fuel : Nat) : Env := ⟨tis, [(56, f56.S)], [], [], [], [], 0, [], fuel⟩
theorem f47.run : ∀ x, runFn (f47.E 100000000000000000000) Go.Proofs.Try.f47 ((Go.Proofs.Try.f47.body).getD .skip) f47.S x = f47.S.f x := by intro x; kernel_rfl
theorem f47.sound : Sound Go.Proofs.Try.prog 47 f47.S := sound_of_run (fun _ => f47.E 100000000000000000000) (by kernel_rfl) (by kernel_rfl) (by kernel_rfl) orders (fun _ => ⟨tis_ok, EqsOk.nil _, (FnsOk.cons f56.sound FnsOk.nil)⟩) (fun _ => rfl) (by kernel_rfl) (by kernel_rfl) (fun x r h => (f47.run x).trans h)
/-! f48: adit/aditref4.dig -/
def f48 (a0 : Int) (a1 : Int) (a2 : Bool) (a3 : List Int) : Option (Bool × List Int × Unit) :=
 bif inRange (Go.IntKind.wrap Go.IntKind.i64 (Go.IntKind.wrap Go.IntKind.i64 (a1 * 24) + a0)) (List.length a3) then
  bif List.getD a3 (Int.toNat (Go.IntKind.wrap Go.IntKind.i64 (Go.IntKind.wrap Go.IntKind.i64 (a1 * 24) + a0))) 0 != 0 then
   some ((a2, a3, ()))
  else
   bif inRange (Go.IntKind.wrap Go.IntKind.i64 (Go.IntKind.wrap Go.IntKind.i64 (a1 * 24) + a0)) (List.length a3) then
    bif !a2 then
     bif inRange (Go.IntKind.wrap Go.IntKind.i64 (Go.IntKind.wrap Go.IntKind.i64 (a1 * 24) + a0)) (List.length (List.set a3 (Int.toNat (Go.IntKind.wrap Go.IntKind.i64 (Go.IntKind.wrap Go.IntKind.i64 (a1 * 24) + a0))) 1)) then
      some ((Bool.true, List.set (List.set a3 (Int.toNat (Go.IntKind.wrap Go.IntKind.i64 (Go.IntKind.wrap Go.IntKind.i64 (a1 * 24) + a0))) 1) (Int.toNat (Go.IntKind.wrap Go.IntKind.i64 (Go.IntKind.wrap Go.IntKind.i64 (a1 * 24) + a0))) 2, ()))
     else
      none
    else
     some ((Bool.true, List.set a3 (Int.toNat (Go.IntKind.wrap Go.IntKind.i64 (Go.IntKind.wrap Go.IntKind.i64 (a1 * 24) + a0))) 1, ()))
   else
    none
 else
  none
def f48.ins : Shape := ⟨[(0, .c (.own 0)), (1, .c (.int .i64)), (2, .c (.int .i64)), (3, .c (.bool))], [(0, .arr (.int .u8))]⟩
def f48.outs : List Shape := [⟨[(0, .c (.bool))], [(0, .arr (.int .u8))]⟩]
def f48.S : FnSpec := ⟨f48.ins, f48.outs, [0], fun x => f48 x.1 x.2.1 x.2.2.1 x.2.2.2.1⟩
def f48.E (fuel : Nat) : Env := ⟨tis, [], [], [], [], [], 1, [0], fuel⟩
theorem f48.run : ∀ x, runFn (f48.E 100000000000000000000) Go.Proofs.Try.f48 ((Go.Proofs.Try.f48.body).getD .skip) f48.S x = f48.S.f x := by intro x; kernel_rfl
theorem f48.sound : Sound Go.Proofs.Try.prog 48 f48.S := sound_of_run (fun _ => f48.E 100000000000000000000) (by kernel_rfl) (by kernel_rfl) (by kernel_rfl) orders (fun _ => ⟨tis_ok, EqsOk.nil _, FnsOk.nil⟩) (fun _ => rfl) (by kernel_rfl) (by kernel_rfl) (fun x r h => (f48.run x).trans h)
/-! f49: adit/aditref4.toward -/
def f49 (a0 : Int) (a1 : Int) : Option (Int × Unit) :=
 bif Decidable.decide (a0 < a1) then
  some ((Go.IntKind.wrap Go.IntKind.i64 (a0 + 1), ()))
 else
  some ((Go.IntKind.wrap Go.IntKind.i64 (a0 - 1), ()))
def f49.ins : Shape := ⟨[(0, .c (.int .i64)), (1, .c (.int .i64))], []⟩
def f49.outs : List Shape := [⟨[(0, .c (.int .i64))], []⟩]
def f49.S : FnSpec := ⟨f49.ins, f49.outs, [], fun x => f49 x.1 x.2.1⟩
def f49.E (fuel : Nat) : Env := ⟨tis, [], [], [], [], [], 0, [], fuel⟩
theorem f49.run : ∀ x, runFn (f49.E 100000000000000000000) Go.Proofs.Try.f49 ((Go.Proofs.Try.f49.body).getD .skip) f49.S x = f49.S.f x := by intro x; kernel_rfl
theorem f49.sound : Sound Go.Proofs.Try.prog 49 f49.S := sound_of_run (fun _ => f49.E 100000000000000000000) (by kernel_rfl) (by kernel_rfl) (by kernel_rfl) orders (fun _ => ⟨tis_ok, EqsOk.nil _, FnsOk.nil⟩) (fun _ => rfl) (by kernel_rfl) (by kernel_rfl) (fun x r h => (f49.run x).trans h)
/-! f51: adit/aditref3.In -/
def f51 (a0 : Int) (a1 : Int) : Option (Bool × Unit) :=
 bif Decidable.decide (a0 ≥ 0) then
  bif Decidable.decide (a0 < 24) then
   bif Decidable.decide (a1 ≥ 0) then
    some ((Decidable.decide (a1 < 16), ()))
   else
    some ((Bool.false, ()))
  else
   some ((Bool.false, ()))
 else
  some ((Bool.false, ()))
def f51.ins : Shape := ⟨[(0, .c (.int .i64)), (1, .c (.int .i64))], []⟩
def f51.outs : List Shape := [⟨[(0, .c (.bool))], []⟩]
def f51.S : FnSpec := ⟨f51.ins, f51.outs, [], fun x => f51 x.1 x.2.1⟩
def f51.E (fuel : Nat) : Env := ⟨tis, [], [], [], [], [], 0, [], fuel⟩
theorem f51.run : ∀ x, runFn (f51.E 100000000000000000000) Go.Proofs.Try.f51 ((Go.Proofs.Try.f51.body).getD .skip) f51.S x = f51.S.f x := by intro x; kernel_rfl
theorem f51.sound : Sound Go.Proofs.Try.prog 51 f51.S := sound_of_run (fun _ => f51.E 100000000000000000000) (by kernel_rfl) (by kernel_rfl) (by kernel_rfl) orders (fun _ => ⟨tis_ok, EqsOk.nil _, FnsOk.nil⟩) (fun _ => rfl) (by kernel_rfl) (by kernel_rfl) (fun x r h => (f51.run x).trans h)
/-! f21: adit/aditref3.At -/
def f21 (a0 : List Int) (a1 : Int) (a2 : Int) : Option (Int × Unit) :=
 Option.bind (f51 a1 a2) fun y0 =>
  bif !y0.fst then
   some ((0, ()))
  else
   bif Decidable.decide (Go.IntKind.wrap Go.IntKind.i64 (Go.IntKind.wrap Go.IntKind.i64 (a2 * 24) + a1) ≥ (↑(List.length a0) : Int)) then
    some ((0, ()))
   else
    bif inRange (Go.IntKind.wrap Go.IntKind.i64 (Go.IntKind.wrap Go.IntKind.i64 (a2 * 24) + a1)) (List.length a0) then
     some ((Go.IntKind.wrap Go.IntKind.i64 (List.getD a0 (Int.toNat (Go.IntKind.wrap Go.IntKind.i64 (Go.IntKind.wrap Go.IntKind.i64 (a2 * 24) + a1))) 0), ()))
    else
     none
def f21.ins : Shape := ⟨[(0, .c (.row (.int .u8))), (1, .c (.int .i64)), (2, .c (.int .i64))], []⟩
def f21.outs : List Shape := [⟨[(0, .c (.int .i64))], []⟩]
def f21.S : FnSpec := ⟨f21.ins, f21.outs, [], fun x => f21 x.1 x.2.1 x.2.2.1⟩
def f21.E (fuel : Nat) : Env := ⟨tis, [(51, f51.S)], [], [], [], [], 0, [], fuel⟩
theorem f21.run : ∀ x, runFn (f21.E 100000000000000000000) Go.Proofs.Try.f21 ((Go.Proofs.Try.f21.body).getD .skip) f21.S x = f21.S.f x := by intro x; kernel_rfl
theorem f21.sound : Sound Go.Proofs.Try.prog 21 f21.S := sound_of_run (fun _ => f21.E 100000000000000000000) (by kernel_rfl) (by kernel_rfl) (by kernel_rfl) orders (fun _ => ⟨tis_ok, EqsOk.nil _, (FnsOk.cons f51.sound FnsOk.nil)⟩) (fun _ => rfl) (by kernel_rfl) (by kernel_rfl) (fun x r h => (f21.run x).trans h)
/-! f20: adit/aditref3.Walk -/
def f20 (a0 : Int) : Option (Bool × Unit) :=
 bif Decidable.decide (a0 ≥ 1) then
  some ((Decidable.decide (a0 ≤ 5), ()))
 else
  some ((Bool.false, ()))
def f20.ins : Shape := ⟨[(0, .c (.int .i64))], []⟩
def f20.outs : List Shape := [⟨[(0, .c (.bool))], []⟩]
def f20.S : FnSpec := ⟨f20.ins, f20.outs, [], fun x => f20 x.1⟩
def f20.E (fuel : Nat) : Env := ⟨tis, [], [], [], [], [], 0, [], fuel⟩
theorem f20.run : ∀ x, runFn (f20.E 100000000000000000000) Go.Proofs.Try.f20 ((Go.Proofs.Try.f20.body).getD .skip) f20.S x = f20.S.f x := by intro x; kernel_rfl
theorem f20.sound : Sound Go.Proofs.Try.prog 20 f20.S := sound_of_run (fun _ => f20.E 100000000000000000000) (by kernel_rfl) (by kernel_rfl) (by kernel_rfl) orders (fun _ => ⟨tis_ok, EqsOk.nil _, FnsOk.nil⟩) (fun _ => rfl) (by kernel_rfl) (by kernel_rfl) (fun x r h => (f20.run x).trans h)
/-! f18: adit/aditref3.Field -/
def f18.L1 (k0 : List Int × List Bool × Int × List Int × List Int × Unit → Option (List Int × Unit)) (x : List Int × List Bool × Int × Int × Int × List Int × List Int × Unit) : Option (List Int × Unit) :=
 it (X := List Int × List Bool × Int × Int × Int × List Int × List Int × Unit) (fun rec x =>
 bif Decidable.decide (x.snd.snd.snd.snd.fst < 4) then
  Option.bind (α := List Int × List Bool × Int × Int × Int × Int × Int × List Int × List Int × Unit ⊕ List Int × Unit) (
   bif x.snd.snd.snd.snd.fst == 0 then
    some (Sum.inl (x.fst, x.snd.fst, x.snd.snd.fst, x.snd.snd.snd.fst, x.snd.snd.snd.snd.fst, Int.tmod x.snd.snd.snd.fst 24, Go.IntKind.wrap Go.IntKind.i64 (Go.IntKind.wrap Go.IntKind.i64 (Int.tdiv x.snd.snd.snd.fst 24) - 1), x.snd.snd.snd.snd.snd.fst, x.snd.snd.snd.snd.snd.snd.fst, ()))
   else
    bif x.snd.snd.snd.snd.fst == 1 then
     some (Sum.inl (x.fst, x.snd.fst, x.snd.snd.fst, x.snd.snd.snd.fst, x.snd.snd.snd.snd.fst, Go.IntKind.wrap Go.IntKind.i64 (Int.tmod x.snd.snd.snd.fst 24 + 1), Go.IntKind.wrap Go.IntKind.i64 (Int.tdiv x.snd.snd.snd.fst 24), x.snd.snd.snd.snd.snd.fst, x.snd.snd.snd.snd.snd.snd.fst, ()))
    else
     bif x.snd.snd.snd.snd.fst == 2 then
      some (Sum.inl (x.fst, x.snd.fst, x.snd.snd.fst, x.snd.snd.snd.fst, x.snd.snd.snd.snd.fst, Int.tmod x.snd.snd.snd.fst 24, Go.IntKind.wrap Go.IntKind.i64 (Go.IntKind.wrap Go.IntKind.i64 (Int.tdiv x.snd.snd.snd.fst 24) + 1), x.snd.snd.snd.snd.snd.fst, x.snd.snd.snd.snd.snd.snd.fst, ()))
     else
      bif x.snd.snd.snd.snd.fst == 3 then
       some (Sum.inl (x.fst, x.snd.fst, x.snd.snd.fst, x.snd.snd.snd.fst, x.snd.snd.snd.snd.fst, Go.IntKind.wrap Go.IntKind.i64 (Int.tmod x.snd.snd.snd.fst 24 - 1), Go.IntKind.wrap Go.IntKind.i64 (Int.tdiv x.snd.snd.snd.fst 24), x.snd.snd.snd.snd.snd.fst, x.snd.snd.snd.snd.snd.snd.fst, ()))
      else
       some (Sum.inl (x.fst, x.snd.fst, x.snd.snd.fst, x.snd.snd.snd.fst, x.snd.snd.snd.snd.fst, Int.tmod x.snd.snd.snd.fst 24, Go.IntKind.wrap Go.IntKind.i64 (Int.tdiv x.snd.snd.snd.fst 24), x.snd.snd.snd.snd.snd.fst, x.snd.snd.snd.snd.snd.snd.fst, ()))
  ) fun y0 =>
   Sum.elim (fun y1 =>
    Option.bind (f51 y1.snd.snd.snd.snd.snd.fst y1.snd.snd.snd.snd.snd.snd.fst) fun y2 =>
     bif y2.fst then
      bif inRange (Go.IntKind.wrap Go.IntKind.i64 (Go.IntKind.wrap Go.IntKind.i64 (y1.snd.snd.snd.snd.snd.snd.fst * 24) + y1.snd.snd.snd.snd.snd.fst)) (List.length y1.snd.snd.snd.snd.snd.snd.snd.fst) then
       bif Decidable.decide (List.getD y1.snd.snd.snd.snd.snd.snd.snd.fst (Int.toNat (Go.IntKind.wrap Go.IntKind.i64 (Go.IntKind.wrap Go.IntKind.i64 (y1.snd.snd.snd.snd.snd.snd.fst * 24) + y1.snd.snd.snd.snd.snd.fst))) 0 < 0) then
        Option.bind (f21 y1.fst y1.snd.snd.snd.snd.snd.fst y1.snd.snd.snd.snd.snd.snd.fst) fun y3 =>
         Option.bind (f20 y3.fst) fun y4 =>
          bif y4.fst then
           bif Decidable.decide (Go.IntKind.wrap Go.IntKind.i64 (Go.IntKind.wrap Go.IntKind.i64 (y1.snd.snd.snd.snd.snd.snd.fst * 24) + y1.snd.snd.snd.snd.snd.fst) ≥ (↑(List.length y1.snd.fst) : Int)) then
            bif inRange y1.snd.snd.snd.fst (List.length y1.snd.snd.snd.snd.snd.snd.snd.fst) then
             bif inRange (Go.IntKind.wrap Go.IntKind.i64 (Go.IntKind.wrap Go.IntKind.i64 (y1.snd.snd.snd.snd.snd.snd.fst * 24) + y1.snd.snd.snd.snd.snd.fst)) (List.length y1.snd.snd.snd.snd.snd.snd.snd.fst) then
              bif Decidable.decide (List.length y1.snd.snd.snd.snd.snd.snd.snd.snd.fst + 1 ≤ limit 8) then
               rec (y1.fst, y1.snd.fst, y1.snd.snd.fst, y1.snd.snd.snd.fst, Go.IntKind.wrap Go.IntKind.i64 (y1.snd.snd.snd.snd.fst + 1), List.set y1.snd.snd.snd.snd.snd.snd.snd.fst (Int.toNat (Go.IntKind.wrap Go.IntKind.i64 (Go.IntKind.wrap Go.IntKind.i64 (y1.snd.snd.snd.snd.snd.snd.fst * 24) + y1.snd.snd.snd.snd.snd.fst))) (Go.IntKind.wrap Go.IntKind.i64 (List.getD y1.snd.snd.snd.snd.snd.snd.snd.fst (Int.toNat y1.snd.snd.snd.fst) 0 + 1)), y1.snd.snd.snd.snd.snd.snd.snd.snd.fst ++ [Go.IntKind.wrap Go.IntKind.i64 (Go.IntKind.wrap Go.IntKind.i64 (y1.snd.snd.snd.snd.snd.snd.fst * 24) + y1.snd.snd.snd.snd.snd.fst)], ())
              else
               none
             else
              none
            else
             none
           else
            bif inRange (Go.IntKind.wrap Go.IntKind.i64 (Go.IntKind.wrap Go.IntKind.i64 (y1.snd.snd.snd.snd.snd.snd.fst * 24) + y1.snd.snd.snd.snd.snd.fst)) (List.length y1.snd.fst) then
             bif !List.getD y1.snd.fst (Int.toNat (Go.IntKind.wrap Go.IntKind.i64 (Go.IntKind.wrap Go.IntKind.i64 (y1.snd.snd.snd.snd.snd.snd.fst * 24) + y1.snd.snd.snd.snd.snd.fst))) Bool.false then
              bif inRange y1.snd.snd.snd.fst (List.length y1.snd.snd.snd.snd.snd.snd.snd.fst) then
               bif inRange (Go.IntKind.wrap Go.IntKind.i64 (Go.IntKind.wrap Go.IntKind.i64 (y1.snd.snd.snd.snd.snd.snd.fst * 24) + y1.snd.snd.snd.snd.snd.fst)) (List.length y1.snd.snd.snd.snd.snd.snd.snd.fst) then
                bif Decidable.decide (List.length y1.snd.snd.snd.snd.snd.snd.snd.snd.fst + 1 ≤ limit 8) then
                 rec (y1.fst, y1.snd.fst, y1.snd.snd.fst, y1.snd.snd.snd.fst, Go.IntKind.wrap Go.IntKind.i64 (y1.snd.snd.snd.snd.fst + 1), List.set y1.snd.snd.snd.snd.snd.snd.snd.fst (Int.toNat (Go.IntKind.wrap Go.IntKind.i64 (Go.IntKind.wrap Go.IntKind.i64 (y1.snd.snd.snd.snd.snd.snd.fst * 24) + y1.snd.snd.snd.snd.snd.fst))) (Go.IntKind.wrap Go.IntKind.i64 (List.getD y1.snd.snd.snd.snd.snd.snd.snd.fst (Int.toNat y1.snd.snd.snd.fst) 0 + 1)), y1.snd.snd.snd.snd.snd.snd.snd.snd.fst ++ [Go.IntKind.wrap Go.IntKind.i64 (Go.IntKind.wrap Go.IntKind.i64 (y1.snd.snd.snd.snd.snd.snd.fst * 24) + y1.snd.snd.snd.snd.snd.fst)], ())
                else
                 none
               else
                none
              else
               none
             else
              rec (y1.fst, y1.snd.fst, y1.snd.snd.fst, y1.snd.snd.snd.fst, Go.IntKind.wrap Go.IntKind.i64 (y1.snd.snd.snd.snd.fst + 1), y1.snd.snd.snd.snd.snd.snd.snd.fst, y1.snd.snd.snd.snd.snd.snd.snd.snd.fst, ())
            else
             none
          else
           rec (y1.fst, y1.snd.fst, y1.snd.snd.fst, y1.snd.snd.snd.fst, Go.IntKind.wrap Go.IntKind.i64 (y1.snd.snd.snd.snd.fst + 1), y1.snd.snd.snd.snd.snd.snd.snd.fst, y1.snd.snd.snd.snd.snd.snd.snd.snd.fst, ())
       else
        rec (y1.fst, y1.snd.fst, y1.snd.snd.fst, y1.snd.snd.snd.fst, Go.IntKind.wrap Go.IntKind.i64 (y1.snd.snd.snd.snd.fst + 1), y1.snd.snd.snd.snd.snd.snd.snd.fst, y1.snd.snd.snd.snd.snd.snd.snd.snd.fst, ())
      else
       none
     else
      rec (y1.fst, y1.snd.fst, y1.snd.snd.fst, y1.snd.snd.snd.fst, Go.IntKind.wrap Go.IntKind.i64 (y1.snd.snd.snd.snd.fst + 1), y1.snd.snd.snd.snd.snd.snd.snd.fst, y1.snd.snd.snd.snd.snd.snd.snd.snd.fst, ())
   ) (fun z5 =>
    some (z5)
   ) (y0)
 else
  k0 (x.fst, x.snd.fst, Go.IntKind.wrap Go.IntKind.i64 (x.snd.snd.fst + 1), x.snd.snd.snd.snd.snd.fst, x.snd.snd.snd.snd.snd.snd.fst, ())
 ) (100000000000000000000) (x)
def f18.L2 (x : List Int × List Bool × Int × List Int × List Int × Unit) : Option (List Int × Unit) :=
 it (X := List Int × List Bool × Int × List Int × List Int × Unit) (fun rec x =>
 bif Decidable.decide (x.snd.snd.fst < (↑(List.length x.snd.snd.snd.snd.fst) : Int)) then
  bif inRange x.snd.snd.fst (List.length x.snd.snd.snd.snd.fst) then
   f18.L1 rec ((x.fst, x.snd.fst, x.snd.snd.fst, List.getD x.snd.snd.snd.snd.fst (Int.toNat x.snd.snd.fst) 0, 0, x.snd.snd.snd.fst, x.snd.snd.snd.snd.fst, ()))
  else
   none
 else
  some ((x.snd.snd.snd.fst, ()))
 ) (100000000000000000000) (x)
def f18.L3 (x : List Int × List Bool × Int × List Int × List Int × Unit) : Option (List Int × Unit) :=
 it (X := List Int × List Bool × Int × List Int × List Int × Unit) (fun rec x =>
 bif Decidable.decide (x.snd.snd.fst < 384) then
  bif inRange x.snd.snd.fst (List.length x.snd.snd.snd.fst) then
   bif List.getD x.snd.snd.snd.fst (Int.toNat x.snd.snd.fst) 0 == 0 then
    bif Decidable.decide (List.length x.snd.snd.snd.snd.fst + 1 ≤ limit 8) then
     rec (x.fst, x.snd.fst, Go.IntKind.wrap Go.IntKind.i64 (x.snd.snd.fst + 1), x.snd.snd.snd.fst, x.snd.snd.snd.snd.fst ++ [x.snd.snd.fst], ())
    else
     none
   else
    rec (x.fst, x.snd.fst, Go.IntKind.wrap Go.IntKind.i64 (x.snd.snd.fst + 1), x.snd.snd.snd.fst, x.snd.snd.snd.snd.fst, ())
  else
   none
 else
  f18.L2 ((x.fst, x.snd.fst, 0, x.snd.snd.snd.fst, x.snd.snd.snd.snd.fst, ()))
 ) (100000000000000000000) (x)
def f18.L4 (x : List Int × List Bool × List Int × Int × List Int × Unit) : Option (List Int × Unit) :=
 it (X := List Int × List Bool × List Int × Int × List Int × Unit) (fun rec x =>
 bif Decidable.decide (x.snd.snd.snd.fst < (↑(List.length x.snd.snd.fst) : Int)) then
  bif inRange x.snd.snd.snd.fst (List.length x.snd.snd.fst) then
   bif Decidable.decide (List.getD x.snd.snd.fst (Int.toNat x.snd.snd.snd.fst) 0 ≥ 0) then
    bif Decidable.decide (List.getD x.snd.snd.fst (Int.toNat x.snd.snd.snd.fst) 0 < 384) then
     Option.bind (f21 x.fst (Int.tmod (List.getD x.snd.snd.fst (Int.toNat x.snd.snd.snd.fst) 0) 24) (Go.IntKind.wrap Go.IntKind.i64 (Int.tdiv (List.getD x.snd.snd.fst (Int.toNat x.snd.snd.snd.fst) 0) 24))) fun y0 =>
      Option.bind (f20 y0.fst) fun y1 =>
       bif y1.fst then
        bif inRange (List.getD x.snd.snd.fst (Int.toNat x.snd.snd.snd.fst) 0) (List.length x.snd.snd.snd.snd.fst) then
         rec (x.fst, x.snd.fst, x.snd.snd.fst, Go.IntKind.wrap Go.IntKind.i64 (x.snd.snd.snd.fst + 1), List.set x.snd.snd.snd.snd.fst (Int.toNat (List.getD x.snd.snd.fst (Int.toNat x.snd.snd.snd.fst) 0)) 0, ())
        else
         none
       else
        rec (x.fst, x.snd.fst, x.snd.snd.fst, Go.IntKind.wrap Go.IntKind.i64 (x.snd.snd.snd.fst + 1), x.snd.snd.snd.snd.fst, ())
    else
     rec (x.fst, x.snd.fst, x.snd.snd.fst, Go.IntKind.wrap Go.IntKind.i64 (x.snd.snd.snd.fst + 1), x.snd.snd.snd.snd.fst, ())
   else
    rec (x.fst, x.snd.fst, x.snd.snd.fst, Go.IntKind.wrap Go.IntKind.i64 (x.snd.snd.snd.fst + 1), x.snd.snd.snd.snd.fst, ())
  else
   none
 else
  f18.L3 ((x.fst, x.snd.fst, 0, x.snd.snd.snd.snd.fst, [], ()))
 ) (100000000000000000000) (x)
def f18.L5 (x : List Int × List Bool × List Int × Int × List Int × Unit) : Option (List Int × Unit) :=
 it (X := List Int × List Bool × List Int × Int × List Int × Unit) (fun rec x =>
 bif Decidable.decide (x.snd.snd.snd.fst < 384) then
  bif inRange x.snd.snd.snd.fst (List.length x.snd.snd.snd.snd.fst) then
   rec (x.fst, x.snd.fst, x.snd.snd.fst, Go.IntKind.wrap Go.IntKind.i64 (x.snd.snd.snd.fst + 1), List.set x.snd.snd.snd.snd.fst (Int.toNat x.snd.snd.snd.fst) (-1), ())
  else
   none
 else
  f18.L4 ((x.fst, x.snd.fst, x.snd.snd.fst, 0, x.snd.snd.snd.snd.fst, ()))
 ) (100000000000000000000) (x)
def f18 (a0 : List Int) (a1 : List Bool) (a2 : List Int) : Option (List Int × Unit) :=
 f18.L5 ((a0, a1, a2, 0, List.replicate 384 0, ()))
def f18.ins : Shape := ⟨[(0, .c (.row (.int .u8))), (1, .c (.row .bool)), (2, .c (.row (.int .i64)))], []⟩
def f18.outs : List Shape := [⟨[(0, .c (.own 0))], [(0, .arr (.int .i64))]⟩]
def f18.S : FnSpec := ⟨f18.ins, f18.outs, [], fun x => f18 x.1 x.2.1 x.2.2.1⟩
def f18.E (fuel : Nat) : Env := ⟨tis, [(51, f51.S), (21, f21.S), (20, f20.S)], [], [(36, ⟨[(0, .c (.row (.int .u8))), (1, .c (.row .bool)), (7, .c (.own 0)), (11, .c (.own 1)), (13, .c (.int .i64)), (14, .c (.int .i64)), (15, .c (.int .i64)), (16, .c (.int .i64)), (17, .c (.int .i64))], [(0, .arr (.int .i64)), (1, .arr (.int .i64))]⟩)], [(4, ⟨[(0, .c (.row (.int .u8))), (1, .c (.row .bool)), (2, .c (.row (.int .i64))), (7, .c (.own 0)), (8, .c (.int .i64))], [(0, .arr (.int .i64))]⟩), (8, ⟨[(0, .c (.row (.int .u8))), (1, .c (.row .bool)), (2, .c (.row (.int .i64))), (7, .c (.own 0)), (9, .c (.int .i64))], [(0, .arr (.int .i64))]⟩), (15, ⟨[(0, .c (.row (.int .u8))), (1, .c (.row .bool)), (7, .c (.own 0)), (11, .c (.own 1)), (12, .c (.int .i64))], [(0, .arr (.int .i64)), (1, .arr (.int .i64))]⟩), (20, ⟨[(0, .c (.row (.int .u8))), (1, .c (.row .bool)), (7, .c (.own 0)), (11, .c (.own 1)), (13, .c (.int .i64))], [(0, .arr (.int .i64)), (1, .arr (.int .i64))]⟩), (24, ⟨[(0, .c (.row (.int .u8))), (1, .c (.row .bool)), (7, .c (.own 0)), (11, .c (.own 1)), (13, .c (.int .i64)), (14, .c (.int .i64)), (15, .c (.int .i64))], [(0, .arr (.int .i64)), (1, .arr (.int .i64))]⟩)], [], 0, [], fuel⟩
theorem f18.run : ∀ x, runFn (f18.E 100000000000000000000) Go.Proofs.Try.f18 ((Go.Proofs.Try.f18.body).getD .skip) f18.S x = f18.S.f x := by intro x; kernel_rfl
theorem f18.sound : Sound Go.Proofs.Try.prog 18 f18.S := sound_of_run (fun _ => f18.E 100000000000000000000) (by kernel_rfl) (by kernel_rfl) (by kernel_rfl) orders (fun _ => ⟨tis_ok, EqsOk.nil _, (FnsOk.cons f51.sound (FnsOk.cons f21.sound (FnsOk.cons f20.sound FnsOk.nil)))⟩) (fun _ => rfl) (by kernel_rfl) (by kernel_rfl) (fun x r h => (f18.run x).trans h)
/-! f50: adit/aditref4.pick -/
def f50.L1 (x : List Int × List Int × Int × List Bool × Int × Int × Int × Int × List Int × Unit) : Option (Int × Unit) :=
 it (X := List Int × List Int × Int × List Bool × Int × Int × Int × Int × List Int × Unit) (fun rec x =>
 bif Decidable.decide (x.snd.snd.snd.snd.snd.snd.snd.fst < 384) then
  bif inRange x.snd.snd.snd.snd.snd.snd.snd.fst (List.length x.fst) then
   bif List.getD x.fst (Int.toNat x.snd.snd.snd.snd.snd.snd.snd.fst) 0 == 1 then
    bif inRange x.snd.snd.snd.snd.snd.snd.snd.fst (List.length x.snd.fst) then
     bif Decidable.decide (List.getD x.snd.fst (Int.toNat x.snd.snd.snd.snd.snd.snd.snd.fst) 0 ≥ x.snd.snd.fst) then
      bif inRange x.snd.snd.snd.snd.snd.snd.snd.fst (List.length x.snd.snd.snd.fst) then
       bif !List.getD x.snd.snd.snd.fst (Int.toNat x.snd.snd.snd.snd.snd.snd.snd.fst) Bool.false then
        bif Decidable.decide (List.length x.snd.snd.snd.snd.snd.snd.snd.snd.fst + 1 ≤ limit 8) then
         rec (x.fst, x.snd.fst, x.snd.snd.fst, x.snd.snd.snd.fst, x.snd.snd.snd.snd.fst, x.snd.snd.snd.snd.snd.fst, x.snd.snd.snd.snd.snd.snd.fst, Go.IntKind.wrap Go.IntKind.i64 (x.snd.snd.snd.snd.snd.snd.snd.fst + 1), x.snd.snd.snd.snd.snd.snd.snd.snd.fst ++ [x.snd.snd.snd.snd.snd.snd.snd.fst], ())
        else
         none
       else
        rec (x.fst, x.snd.fst, x.snd.snd.fst, x.snd.snd.snd.fst, x.snd.snd.snd.snd.fst, x.snd.snd.snd.snd.snd.fst, x.snd.snd.snd.snd.snd.snd.fst, Go.IntKind.wrap Go.IntKind.i64 (x.snd.snd.snd.snd.snd.snd.snd.fst + 1), x.snd.snd.snd.snd.snd.snd.snd.snd.fst, ())
      else
       none
     else
      rec (x.fst, x.snd.fst, x.snd.snd.fst, x.snd.snd.snd.fst, x.snd.snd.snd.snd.fst, x.snd.snd.snd.snd.snd.fst, x.snd.snd.snd.snd.snd.snd.fst, Go.IntKind.wrap Go.IntKind.i64 (x.snd.snd.snd.snd.snd.snd.snd.fst + 1), x.snd.snd.snd.snd.snd.snd.snd.snd.fst, ())
    else
     none
   else
    rec (x.fst, x.snd.fst, x.snd.snd.fst, x.snd.snd.snd.fst, x.snd.snd.snd.snd.fst, x.snd.snd.snd.snd.snd.fst, x.snd.snd.snd.snd.snd.snd.fst, Go.IntKind.wrap Go.IntKind.i64 (x.snd.snd.snd.snd.snd.snd.snd.fst + 1), x.snd.snd.snd.snd.snd.snd.snd.snd.fst, ())
  else
   none
 else
  bif (↑(List.length x.snd.snd.snd.snd.snd.snd.snd.snd.fst) : Int) == 0 then
   some ((-1, ()))
  else
   Option.bind (f47 x.snd.snd.snd.snd.fst x.snd.snd.snd.snd.snd.fst x.snd.snd.snd.snd.snd.snd.fst 0 (↑(List.length x.snd.snd.snd.snd.snd.snd.snd.snd.fst) : Int)) fun y0 =>
    bif inRange y0.fst (List.length x.snd.snd.snd.snd.snd.snd.snd.snd.fst) then
     some ((List.getD x.snd.snd.snd.snd.snd.snd.snd.snd.fst (Int.toNat y0.fst) 0, ()))
    else
     none
 ) (100000000000000000000) (x)
def f50 (a0 : List Int) (a1 : List Int) (a2 : Int) (a3 : List Bool) (a4 : Int) (a5 : Int) (a6 : Int) : Option (Int × Unit) :=
 f50.L1 ((a0, a1, a2, a3, a4, a5, a6, 0, [], ()))
def f50.ins : Shape := ⟨[(0, .c (.row (.int .u8))), (1, .c (.row (.int .i64))), (2, .c (.int .i64)), (3, .c (.row .bool)), (4, .c (.int .i64)), (5, .c (.int .i64)), (6, .c (.int .i64))], []⟩
def f50.outs : List Shape := [⟨[(0, .c (.int .i64))], []⟩]
def f50.S : FnSpec := ⟨f50.ins, f50.outs, [], fun x => f50 x.1 x.2.1 x.2.2.1 x.2.2.2.1 x.2.2.2.2.1 x.2.2.2.2.2.1 x.2.2.2.2.2.2.1⟩
def f50.E (fuel : Nat) : Env := ⟨tis, [(47, f47.S)], [], [], [(4, ⟨[(0, .c (.row (.int .u8))), (1, .c (.row (.int .i64))), (2, .c (.int .i64)), (3, .c (.row .bool)), (4, .c (.int .i64)), (5, .c (.int .i64)), (6, .c (.int .i64)), (15, .c (.own 0)), (16, .c (.int .i64))], [(0, .arr (.int .i64))]⟩)], [], 0, [], fuel⟩
theorem f50.run : ∀ x, runFn (f50.E 100000000000000000000) Go.Proofs.Try.f50 ((Go.Proofs.Try.f50.body).getD .skip) f50.S x = f50.S.f x := by intro x; kernel_rfl
theorem f50.sound : Sound Go.Proofs.Try.prog 50 f50.S := sound_of_run (fun _ => f50.E 100000000000000000000) (by kernel_rfl) (by kernel_rfl) (by kernel_rfl) orders (fun _ => ⟨tis_ok, EqsOk.nil _, (FnsOk.cons f47.sound FnsOk.nil)⟩) (fun _ => rfl) (by kernel_rfl) (by kernel_rfl) (fun x r h => (f50.run x).trans h)
/-! f37: adit/aditref5.Stats -/
def f37 (a0 : Int) : Option (Int × Int × Int × Int × Int × Int × Int × Int × Int × Int × Int × Unit) :=
 Option.bind (α := Int × Int × Int × Int × Int × Int × Int × Int × Int × Int × Int × Int × Int × Int × Int × Unit ⊕ Int × Int × Int × Int × Int × Int × Int × Int × Int × Int × Int × Unit) (
  bif a0 == 1 then
   some (Sum.inl (a0, 20, 5, 1, 0, 0, 0, 0, 0, 0, 0, 0, 0, 0, 0, ()))
  else
   bif a0 == 2 then
    some (Sum.inl (a0, 4, 2, 0, 0, 0, 0, 0, 0, 0, 0, 0, 0, 0, 0, ()))
   else
    bif a0 == 3 then
     some (Sum.inl (a0, 9, 4, 1, 0, 0, 0, 0, 0, 0, 0, 0, 0, 0, 0, ()))
    else
     bif a0 == 4 then
      some (Sum.inl (a0, 6, 3, 0, 0, 0, 0, 0, 0, 0, 0, 0, 0, 0, 0, ()))
     else
      some (Sum.inr (0, 0, 0, 0, 0, 0, 0, 0, 0, 0, 0, ()))
 ) fun y0 =>
  Sum.elim (fun y1 =>
   some ((y1.fst, 0, 0, 0, 0, y1.snd.fst, y1.snd.fst, y1.snd.snd.fst, y1.snd.snd.snd.fst, 0, 0, ()))
  ) (fun z2 =>
   some (z2)
  ) (y0)
def f37.ins : Shape := ⟨[(0, .c (.int .i64))], []⟩
def f37.outs : List Shape := [⟨[(0, .agg [.int .i64, .int .i64, .int .i64, .int .i64, .int .i64, .int .i64, .int .i64, .int .i64, .int .i64, .int .i64, .int .i64])], []⟩]
def f37.S : FnSpec := ⟨f37.ins, f37.outs, [], fun x => f37 x.1⟩
def f37.E (fuel : Nat) : Env := ⟨tis, [], [], [(13, ⟨[(0, .c (.int .i64)), (2, .c (.ptr 0 0)), (3, .c (.int .i64)), (4, .c (.int .i64)), (5, .c (.int .i64))], [(0, .box [.int .i64, .int .i64, .int .i64, .int .i64, .int .i64, .int .i64, .int .i64, .int .i64, .int .i64, .int .i64, .int .i64])]⟩)], [], [], 0, [], fuel⟩
theorem f37.run : ∀ x, runFn (f37.E 100000000000000000000) Go.Proofs.Try.f37 ((Go.Proofs.Try.f37.body).getD .skip) f37.S x = f37.S.f x := by intro x; kernel_rfl
theorem f37.sound : Sound Go.Proofs.Try.prog 37 f37.S := sound_of_run (fun _ => f37.E 100000000000000000000) (by kernel_rfl) (by kernel_rfl) (by kernel_rfl) orders (fun _ => ⟨tis_ok, EqsOk.nil _, FnsOk.nil⟩) (fun _ => rfl) (by kernel_rfl) (by kernel_rfl) (fun x r h => (f37.run x).trans h)
/-! f16: adit/aditref4.Make -/
def f16.L1 (k0 : Int × Int × Int × Int × Int × Int × Int × Int × List Int × Int × Int × Int × Int × Int × Int × Int × Int × Int × Int × Int × Int × Unit → Option (List Int × List (Int × Int × Int × Int × Int × Int × Int × Int × Int × Int × Int) × List (Int × Int × Int × Int) × Unit)) (x : Int × Int × Int × Int × Int × Int × Int × Int × Int × List Int × Int × Int × Int × Int × Int × Int × Int × Int × Int × Int × Int × Int × Unit) : Option (List Int × List (Int × Int × Int × Int × Int × Int × Int × Int × Int × Int × Int) × List (Int × Int × Int × Int) × Unit) :=
 it (X := Int × Int × Int × Int × Int × Int × Int × Int × Int × List Int × Int × Int × Int × Int × Int × Int × Int × Int × Int × Int × Int × Int × Unit) (fun rec x =>
 bif Decidable.decide (x.snd.snd.snd.snd.snd.snd.snd.snd.fst < Go.IntKind.wrap Go.IntKind.i64 (x.snd.snd.snd.snd.snd.fst + x.snd.snd.snd.fst)) then
  bif inRange (Go.IntKind.wrap Go.IntKind.i64 (Go.IntKind.wrap Go.IntKind.i64 (x.snd.snd.snd.snd.snd.snd.snd.fst * 24) + x.snd.snd.snd.snd.snd.snd.snd.snd.fst)) (List.length x.snd.snd.snd.snd.snd.snd.snd.snd.snd.fst) then
   rec (x.fst, x.snd.fst, x.snd.snd.fst, x.snd.snd.snd.fst, x.snd.snd.snd.snd.fst, x.snd.snd.snd.snd.snd.fst, x.snd.snd.snd.snd.snd.snd.fst, x.snd.snd.snd.snd.snd.snd.snd.fst, Go.IntKind.wrap Go.IntKind.i64 (x.snd.snd.snd.snd.snd.snd.snd.snd.fst + 1), List.set x.snd.snd.snd.snd.snd.snd.snd.snd.snd.fst (Int.toNat (Go.IntKind.wrap Go.IntKind.i64 (Go.IntKind.wrap Go.IntKind.i64 (x.snd.snd.snd.snd.snd.snd.snd.fst * 24) + x.snd.snd.snd.snd.snd.snd.snd.snd.fst))) 1, x.snd.snd.snd.snd.snd.snd.snd.snd.snd.snd.fst, x.snd.snd.snd.snd.snd.snd.snd.snd.snd.snd.snd.fst, x.snd.snd.snd.snd.snd.snd.snd.snd.snd.snd.snd.snd.fst, x.snd.snd.snd.snd.snd.snd.snd.snd.snd.snd.snd.snd.snd.fst, x.snd.snd.snd.snd.snd.snd.snd.snd.snd.snd.snd.snd.snd.snd.fst, x.snd.snd.snd.snd.snd.snd.snd.snd.snd.snd.snd.snd.snd.snd.snd.fst, x.snd.snd.snd.snd.snd.snd.snd.snd.snd.snd.snd.snd.snd.snd.snd.snd.fst, x.snd.snd.snd.snd.snd.snd.snd.snd.snd.snd.snd.snd.snd.snd.snd.snd.snd.fst, x.snd.snd.snd.snd.snd.snd.snd.snd.snd.snd.snd.snd.snd.snd.snd.snd.snd.snd.fst, x.snd.snd.snd.snd.snd.snd.snd.snd.snd.snd.snd.snd.snd.snd.snd.snd.snd.snd.snd.fst, x.snd.snd.snd.snd.snd.snd.snd.snd.snd.snd.snd.snd.snd.snd.snd.snd.snd.snd.snd.snd.fst, x.snd.snd.snd.snd.snd.snd.snd.snd.snd.snd.snd.snd.snd.snd.snd.snd.snd.snd.snd.snd.snd.fst, ())
  else
   none
 else
  k0 (x.fst, x.snd.fst, x.snd.snd.fst, x.snd.snd.snd.fst, x.snd.snd.snd.snd.fst, x.snd.snd.snd.snd.snd.fst, x.snd.snd.snd.snd.snd.snd.fst, Go.IntKind.wrap Go.IntKind.i64 (x.snd.snd.snd.snd.snd.snd.snd.fst + 1), x.snd.snd.snd.snd.snd.snd.snd.snd.snd.fst, x.snd.snd.snd.snd.snd.snd.snd.snd.snd.snd.fst, x.snd.snd.snd.snd.snd.snd.snd.snd.snd.snd.snd.fst, x.snd.snd.snd.snd.snd.snd.snd.snd.snd.snd.snd.snd.fst, x.snd.snd.snd.snd.snd.snd.snd.snd.snd.snd.snd.snd.snd.fst, x.snd.snd.snd.snd.snd.snd.snd.snd.snd.snd.snd.snd.snd.snd.fst, x.snd.snd.snd.snd.snd.snd.snd.snd.snd.snd.snd.snd.snd.snd.snd.fst, x.snd.snd.snd.snd.snd.snd.snd.snd.snd.snd.snd.snd.snd.snd.snd.snd.fst, x.snd.snd.snd.snd.snd.snd.snd.snd.snd.snd.snd.snd.snd.snd.snd.snd.snd.fst, x.snd.snd.snd.snd.snd.snd.snd.snd.snd.snd.snd.snd.snd.snd.snd.snd.snd.snd.fst, x.snd.snd.snd.snd.snd.snd.snd.snd.snd.snd.snd.snd.snd.snd.snd.snd.snd.snd.snd.fst, x.snd.snd.snd.snd.snd.snd.snd.snd.snd.snd.snd.snd.snd.snd.snd.snd.snd.snd.snd.snd.fst, x.snd.snd.snd.snd.snd.snd.snd.snd.snd.snd.snd.snd.snd.snd.snd.snd.snd.snd.snd.snd.snd.fst, ())
 ) (100000000000000000000) (x)
def f16.L2 (k0 : Int × Int × Int × List Int × Int × Int × Int × Int × Int × Int × Int × Int × Int × Int × Int × Int × Unit → Option (List Int × List (Int × Int × Int × Int × Int × Int × Int × Int × Int × Int × Int) × List (Int × Int × Int × Int) × Unit)) (x : Int × Int × Int × Int × Int × Int × Int × Int × List Int × Int × Int × Int × Int × Int × Int × Int × Int × Int × Int × Int × Int × Unit) : Option (List Int × List (Int × Int × Int × Int × Int × Int × Int × Int × Int × Int × Int) × List (Int × Int × Int × Int) × Unit) :=
 it (X := Int × Int × Int × Int × Int × Int × Int × Int × List Int × Int × Int × Int × Int × Int × Int × Int × Int × Int × Int × Int × Int × Unit) (fun rec x =>
 bif Decidable.decide (x.snd.snd.snd.snd.snd.snd.snd.fst < Go.IntKind.wrap Go.IntKind.i64 (x.snd.snd.snd.snd.snd.snd.fst + x.snd.snd.snd.snd.fst)) then
  f16.L1 rec ((x.fst, x.snd.fst, x.snd.snd.fst, x.snd.snd.snd.fst, x.snd.snd.snd.snd.fst, x.snd.snd.snd.snd.snd.fst, x.snd.snd.snd.snd.snd.snd.fst, x.snd.snd.snd.snd.snd.snd.snd.fst, x.snd.snd.snd.snd.snd.fst, x.snd.snd.snd.snd.snd.snd.snd.snd.fst, x.snd.snd.snd.snd.snd.snd.snd.snd.snd.fst, x.snd.snd.snd.snd.snd.snd.snd.snd.snd.snd.fst, x.snd.snd.snd.snd.snd.snd.snd.snd.snd.snd.snd.fst, x.snd.snd.snd.snd.snd.snd.snd.snd.snd.snd.snd.snd.fst, x.snd.snd.snd.snd.snd.snd.snd.snd.snd.snd.snd.snd.snd.fst, x.snd.snd.snd.snd.snd.snd.snd.snd.snd.snd.snd.snd.snd.snd.fst, x.snd.snd.snd.snd.snd.snd.snd.snd.snd.snd.snd.snd.snd.snd.snd.fst, x.snd.snd.snd.snd.snd.snd.snd.snd.snd.snd.snd.snd.snd.snd.snd.snd.fst, x.snd.snd.snd.snd.snd.snd.snd.snd.snd.snd.snd.snd.snd.snd.snd.snd.snd.fst, x.snd.snd.snd.snd.snd.snd.snd.snd.snd.snd.snd.snd.snd.snd.snd.snd.snd.snd.fst, x.snd.snd.snd.snd.snd.snd.snd.snd.snd.snd.snd.snd.snd.snd.snd.snd.snd.snd.snd.fst, x.snd.snd.snd.snd.snd.snd.snd.snd.snd.snd.snd.snd.snd.snd.snd.snd.snd.snd.snd.snd.fst, ()))
 else
  bif inRange x.snd.snd.fst 6 then
   bif inRange x.snd.snd.fst 6 then
    k0 (x.fst, x.snd.fst, Go.IntKind.wrap Go.IntKind.i64 (x.snd.snd.fst + 1), x.snd.snd.snd.snd.snd.snd.snd.snd.fst, if Int.toNat x.snd.snd.fst = 0 / 1 then Go.IntKind.wrap Go.IntKind.i64 (x.snd.snd.snd.snd.snd.fst + Go.IntKind.wrap Go.IntKind.i64 (Int.tdiv x.snd.snd.snd.fst 2)) else x.snd.snd.snd.snd.snd.snd.snd.snd.snd.fst, if Int.toNat x.snd.snd.fst = (0 + 1) / 1 then Go.IntKind.wrap Go.IntKind.i64 (x.snd.snd.snd.snd.snd.fst + Go.IntKind.wrap Go.IntKind.i64 (Int.tdiv x.snd.snd.snd.fst 2)) else x.snd.snd.snd.snd.snd.snd.snd.snd.snd.snd.fst, if Int.toNat x.snd.snd.fst = (0 + 1 + 1) / 1 then Go.IntKind.wrap Go.IntKind.i64 (x.snd.snd.snd.snd.snd.fst + Go.IntKind.wrap Go.IntKind.i64 (Int.tdiv x.snd.snd.snd.fst 2)) else x.snd.snd.snd.snd.snd.snd.snd.snd.snd.snd.snd.fst, if Int.toNat x.snd.snd.fst = (0 + 1 + 1 + 1) / 1 then Go.IntKind.wrap Go.IntKind.i64 (x.snd.snd.snd.snd.snd.fst + Go.IntKind.wrap Go.IntKind.i64 (Int.tdiv x.snd.snd.snd.fst 2)) else x.snd.snd.snd.snd.snd.snd.snd.snd.snd.snd.snd.snd.fst, if Int.toNat x.snd.snd.fst = (0 + 1 + 1 + 1 + 1) / 1 then Go.IntKind.wrap Go.IntKind.i64 (x.snd.snd.snd.snd.snd.fst + Go.IntKind.wrap Go.IntKind.i64 (Int.tdiv x.snd.snd.snd.fst 2)) else x.snd.snd.snd.snd.snd.snd.snd.snd.snd.snd.snd.snd.snd.fst, if Int.toNat x.snd.snd.fst = (0 + 1 + 1 + 1 + 1 + 1) / 1 then Go.IntKind.wrap Go.IntKind.i64 (x.snd.snd.snd.snd.snd.fst + Go.IntKind.wrap Go.IntKind.i64 (Int.tdiv x.snd.snd.snd.fst 2)) else x.snd.snd.snd.snd.snd.snd.snd.snd.snd.snd.snd.snd.snd.snd.fst, if Int.toNat x.snd.snd.fst = 0 / 1 then Go.IntKind.wrap Go.IntKind.i64 (x.snd.snd.snd.snd.snd.snd.fst + Go.IntKind.wrap Go.IntKind.i64 (Int.tdiv x.snd.snd.snd.snd.fst 2)) else x.snd.snd.snd.snd.snd.snd.snd.snd.snd.snd.snd.snd.snd.snd.snd.fst, if Int.toNat x.snd.snd.fst = (0 + 1) / 1 then Go.IntKind.wrap Go.IntKind.i64 (x.snd.snd.snd.snd.snd.snd.fst + Go.IntKind.wrap Go.IntKind.i64 (Int.tdiv x.snd.snd.snd.snd.fst 2)) else x.snd.snd.snd.snd.snd.snd.snd.snd.snd.snd.snd.snd.snd.snd.snd.snd.fst, if Int.toNat x.snd.snd.fst = (0 + 1 + 1) / 1 then Go.IntKind.wrap Go.IntKind.i64 (x.snd.snd.snd.snd.snd.snd.fst + Go.IntKind.wrap Go.IntKind.i64 (Int.tdiv x.snd.snd.snd.snd.fst 2)) else x.snd.snd.snd.snd.snd.snd.snd.snd.snd.snd.snd.snd.snd.snd.snd.snd.snd.fst, if Int.toNat x.snd.snd.fst = (0 + 1 + 1 + 1) / 1 then Go.IntKind.wrap Go.IntKind.i64 (x.snd.snd.snd.snd.snd.snd.fst + Go.IntKind.wrap Go.IntKind.i64 (Int.tdiv x.snd.snd.snd.snd.fst 2)) else x.snd.snd.snd.snd.snd.snd.snd.snd.snd.snd.snd.snd.snd.snd.snd.snd.snd.snd.fst, if Int.toNat x.snd.snd.fst = (0 + 1 + 1 + 1 + 1) / 1 then Go.IntKind.wrap Go.IntKind.i64 (x.snd.snd.snd.snd.snd.snd.fst + Go.IntKind.wrap Go.IntKind.i64 (Int.tdiv x.snd.snd.snd.snd.fst 2)) else x.snd.snd.snd.snd.snd.snd.snd.snd.snd.snd.snd.snd.snd.snd.snd.snd.snd.snd.snd.fst, if Int.toNat x.snd.snd.fst = (0 + 1 + 1 + 1 + 1 + 1) / 1 then Go.IntKind.wrap Go.IntKind.i64 (x.snd.snd.snd.snd.snd.snd.fst + Go.IntKind.wrap Go.IntKind.i64 (Int.tdiv x.snd.snd.snd.snd.fst 2)) else x.snd.snd.snd.snd.snd.snd.snd.snd.snd.snd.snd.snd.snd.snd.snd.snd.snd.snd.snd.snd.fst, ())
   else
    none
  else
   none
 ) (100000000000000000000) (x)
def f16.L3 (k0 : Int × Int × Int × List Int × Int × Int × Int × Int × Int × Int × Int × Int × Int × Int × Int × Int × Unit → Option (List Int × List (Int × Int × Int × Int × Int × Int × Int × Int × Int × Int × Int) × List (Int × Int × Int × Int) × Unit)) (x : Int × Int × Int × Int × Int × Bool × Bool × List Int × Int × Int × Int × Int × Int × Int × Int × Int × Int × Int × Int × Int × Unit) : Option (List Int × List (Int × Int × Int × Int × Int × Int × Int × Int × Int × Int × Int) × List (Int × Int × Int × Int) × Unit) :=
 it (X := Int × Int × Int × Int × Int × Bool × Bool × List Int × Int × Int × Int × Int × Int × Int × Int × Int × Int × Int × Int × Int × Unit) (fun rec x =>
 Option.bind (α := Int × Int × Int × Int × Int × Bool × Bool × List Int × Int × Int × Int × Int × Int × Int × Int × Int × Int × Int × Int × Int × Unit ⊕ List Int × List (Int × Int × Int × Int × Int × Int × Int × Int × Int × Int × Int) × List (Int × Int × Int × Int) × Unit) (
  bif inRange x.snd.snd.fst 6 then
   bif x.snd.snd.snd.fst != List.getD [x.snd.snd.snd.snd.snd.snd.snd.snd.fst, x.snd.snd.snd.snd.snd.snd.snd.snd.snd.fst, x.snd.snd.snd.snd.snd.snd.snd.snd.snd.snd.fst, x.snd.snd.snd.snd.snd.snd.snd.snd.snd.snd.snd.fst, x.snd.snd.snd.snd.snd.snd.snd.snd.snd.snd.snd.snd.fst, x.snd.snd.snd.snd.snd.snd.snd.snd.snd.snd.snd.snd.snd.fst] (Int.toNat x.snd.snd.fst) 0 then
    some (Sum.inl (x.fst, x.snd.fst, x.snd.snd.fst, x.snd.snd.snd.fst, x.snd.snd.snd.snd.fst, x.snd.snd.snd.snd.snd.fst, x.snd.snd.snd.snd.snd.snd.fst, x.snd.snd.snd.snd.snd.snd.snd.fst, x.snd.snd.snd.snd.snd.snd.snd.snd.fst, x.snd.snd.snd.snd.snd.snd.snd.snd.snd.fst, x.snd.snd.snd.snd.snd.snd.snd.snd.snd.snd.fst, x.snd.snd.snd.snd.snd.snd.snd.snd.snd.snd.snd.fst, x.snd.snd.snd.snd.snd.snd.snd.snd.snd.snd.snd.snd.fst, x.snd.snd.snd.snd.snd.snd.snd.snd.snd.snd.snd.snd.snd.fst, x.snd.snd.snd.snd.snd.snd.snd.snd.snd.snd.snd.snd.snd.snd.fst, x.snd.snd.snd.snd.snd.snd.snd.snd.snd.snd.snd.snd.snd.snd.snd.fst, x.snd.snd.snd.snd.snd.snd.snd.snd.snd.snd.snd.snd.snd.snd.snd.snd.fst, x.snd.snd.snd.snd.snd.snd.snd.snd.snd.snd.snd.snd.snd.snd.snd.snd.snd.fst, x.snd.snd.snd.snd.snd.snd.snd.snd.snd.snd.snd.snd.snd.snd.snd.snd.snd.snd.fst, x.snd.snd.snd.snd.snd.snd.snd.snd.snd.snd.snd.snd.snd.snd.snd.snd.snd.snd.snd.fst, ()))
   else
    bif inRange x.snd.snd.fst 6 then
     bif x.snd.snd.snd.snd.fst != List.getD [x.snd.snd.snd.snd.snd.snd.snd.snd.snd.snd.snd.snd.snd.snd.fst, x.snd.snd.snd.snd.snd.snd.snd.snd.snd.snd.snd.snd.snd.snd.snd.fst, x.snd.snd.snd.snd.snd.snd.snd.snd.snd.snd.snd.snd.snd.snd.snd.snd.fst, x.snd.snd.snd.snd.snd.snd.snd.snd.snd.snd.snd.snd.snd.snd.snd.snd.snd.fst, x.snd.snd.snd.snd.snd.snd.snd.snd.snd.snd.snd.snd.snd.snd.snd.snd.snd.snd.fst, x.snd.snd.snd.snd.snd.snd.snd.snd.snd.snd.snd.snd.snd.snd.snd.snd.snd.snd.snd.fst] (Int.toNat x.snd.snd.fst) 0 then
      some (Sum.inl (x.fst, x.snd.fst, x.snd.snd.fst, x.snd.snd.snd.fst, x.snd.snd.snd.snd.fst, x.snd.snd.snd.snd.snd.fst, x.snd.snd.snd.snd.snd.snd.fst, x.snd.snd.snd.snd.snd.snd.snd.fst, x.snd.snd.snd.snd.snd.snd.snd.snd.fst, x.snd.snd.snd.snd.snd.snd.snd.snd.snd.fst, x.snd.snd.snd.snd.snd.snd.snd.snd.snd.snd.fst, x.snd.snd.snd.snd.snd.snd.snd.snd.snd.snd.snd.fst, x.snd.snd.snd.snd.snd.snd.snd.snd.snd.snd.snd.snd.fst, x.snd.snd.snd.snd.snd.snd.snd.snd.snd.snd.snd.snd.snd.fst, x.snd.snd.snd.snd.snd.snd.snd.snd.snd.snd.snd.snd.snd.snd.fst, x.snd.snd.snd.snd.snd.snd.snd.snd.snd.snd.snd.snd.snd.snd.snd.fst, x.snd.snd.snd.snd.snd.snd.snd.snd.snd.snd.snd.snd.snd.snd.snd.snd.fst, x.snd.snd.snd.snd.snd.snd.snd.snd.snd.snd.snd.snd.snd.snd.snd.snd.snd.fst, x.snd.snd.snd.snd.snd.snd.snd.snd.snd.snd.snd.snd.snd.snd.snd.snd.snd.snd.fst, x.snd.snd.snd.snd.snd.snd.snd.snd.snd.snd.snd.snd.snd.snd.snd.snd.snd.snd.snd.fst, ()))
     else
      Option.bind (k0 (x.fst, x.snd.fst, Go.IntKind.wrap Go.IntKind.i64 (x.snd.snd.fst + 1), x.snd.snd.snd.snd.snd.snd.snd.fst, x.snd.snd.snd.snd.snd.snd.snd.snd.fst, x.snd.snd.snd.snd.snd.snd.snd.snd.snd.fst, x.snd.snd.snd.snd.snd.snd.snd.snd.snd.snd.fst, x.snd.snd.snd.snd.snd.snd.snd.snd.snd.snd.snd.fst, x.snd.snd.snd.snd.snd.snd.snd.snd.snd.snd.snd.snd.fst, x.snd.snd.snd.snd.snd.snd.snd.snd.snd.snd.snd.snd.snd.fst, x.snd.snd.snd.snd.snd.snd.snd.snd.snd.snd.snd.snd.snd.snd.fst, x.snd.snd.snd.snd.snd.snd.snd.snd.snd.snd.snd.snd.snd.snd.snd.fst, x.snd.snd.snd.snd.snd.snd.snd.snd.snd.snd.snd.snd.snd.snd.snd.snd.fst, x.snd.snd.snd.snd.snd.snd.snd.snd.snd.snd.snd.snd.snd.snd.snd.snd.snd.fst, x.snd.snd.snd.snd.snd.snd.snd.snd.snd.snd.snd.snd.snd.snd.snd.snd.snd.snd.fst, x.snd.snd.snd.snd.snd.snd.snd.snd.snd.snd.snd.snd.snd.snd.snd.snd.snd.snd.snd.fst, ())) fun y0 =>
       some (Sum.inr y0)
    else
     none
  else
   none
 ) fun y1 =>
  Sum.elim (fun y2 =>
   Option.bind (α := Int × Int × Int × Int × Int × Bool × Bool × List Int × Int × Int × Int × Int × Int × Int × Int × Int × Int × Int × Int × Int × Unit ⊕ List Int × List (Int × Int × Int × Int × Int × Int × Int × Int × Int × Int × Int) × List (Int × Int × Int × Int) × Unit) (
    bif y2.snd.snd.snd.snd.snd.snd.fst then
     bif inRange y2.snd.snd.fst 6 then
      bif y2.snd.snd.snd.fst != List.getD [y2.snd.snd.snd.snd.snd.snd.snd.snd.fst, y2.snd.snd.snd.snd.snd.snd.snd.snd.snd.fst, y2.snd.snd.snd.snd.snd.snd.snd.snd.snd.snd.fst, y2.snd.snd.snd.snd.snd.snd.snd.snd.snd.snd.snd.fst, y2.snd.snd.snd.snd.snd.snd.snd.snd.snd.snd.snd.snd.fst, y2.snd.snd.snd.snd.snd.snd.snd.snd.snd.snd.snd.snd.snd.fst] (Int.toNat y2.snd.snd.fst) 0 then
       bif inRange y2.snd.snd.fst 6 then
        Option.bind (f49 y2.snd.snd.snd.fst (List.getD [y2.snd.snd.snd.snd.snd.snd.snd.snd.fst, y2.snd.snd.snd.snd.snd.snd.snd.snd.snd.fst, y2.snd.snd.snd.snd.snd.snd.snd.snd.snd.snd.fst, y2.snd.snd.snd.snd.snd.snd.snd.snd.snd.snd.snd.fst, y2.snd.snd.snd.snd.snd.snd.snd.snd.snd.snd.snd.snd.fst, y2.snd.snd.snd.snd.snd.snd.snd.snd.snd.snd.snd.snd.snd.fst] (Int.toNat y2.snd.snd.fst) 0)) fun y3 =>
         some (Sum.inl (y2.fst, y2.snd.fst, y2.snd.snd.fst, y3.fst, y2.snd.snd.snd.snd.fst, y2.snd.snd.snd.snd.snd.fst, y2.snd.snd.snd.snd.snd.snd.fst, y2.snd.snd.snd.snd.snd.snd.snd.fst, y2.snd.snd.snd.snd.snd.snd.snd.snd.fst, y2.snd.snd.snd.snd.snd.snd.snd.snd.snd.fst, y2.snd.snd.snd.snd.snd.snd.snd.snd.snd.snd.fst, y2.snd.snd.snd.snd.snd.snd.snd.snd.snd.snd.snd.fst, y2.snd.snd.snd.snd.snd.snd.snd.snd.snd.snd.snd.snd.fst, y2.snd.snd.snd.snd.snd.snd.snd.snd.snd.snd.snd.snd.snd.fst, y2.snd.snd.snd.snd.snd.snd.snd.snd.snd.snd.snd.snd.snd.snd.fst, y2.snd.snd.snd.snd.snd.snd.snd.snd.snd.snd.snd.snd.snd.snd.snd.fst, y2.snd.snd.snd.snd.snd.snd.snd.snd.snd.snd.snd.snd.snd.snd.snd.snd.fst, y2.snd.snd.snd.snd.snd.snd.snd.snd.snd.snd.snd.snd.snd.snd.snd.snd.snd.fst, y2.snd.snd.snd.snd.snd.snd.snd.snd.snd.snd.snd.snd.snd.snd.snd.snd.snd.snd.fst, y2.snd.snd.snd.snd.snd.snd.snd.snd.snd.snd.snd.snd.snd.snd.snd.snd.snd.snd.snd.fst, ()))
       else
        none
      else
       bif !y2.snd.snd.snd.snd.snd.snd.fst then
        bif inRange y2.snd.snd.fst 6 then
         bif y2.snd.snd.snd.snd.fst == List.getD [y2.snd.snd.snd.snd.snd.snd.snd.snd.snd.snd.snd.snd.snd.snd.fst, y2.snd.snd.snd.snd.snd.snd.snd.snd.snd.snd.snd.snd.snd.snd.snd.fst, y2.snd.snd.snd.snd.snd.snd.snd.snd.snd.snd.snd.snd.snd.snd.snd.snd.fst, y2.snd.snd.snd.snd.snd.snd.snd.snd.snd.snd.snd.snd.snd.snd.snd.snd.snd.fst, y2.snd.snd.snd.snd.snd.snd.snd.snd.snd.snd.snd.snd.snd.snd.snd.snd.snd.snd.fst, y2.snd.snd.snd.snd.snd.snd.snd.snd.snd.snd.snd.snd.snd.snd.snd.snd.snd.snd.snd.fst] (Int.toNat y2.snd.snd.fst) 0 then
          bif inRange y2.snd.snd.fst 6 then
           Option.bind (f49 y2.snd.snd.snd.fst (List.getD [y2.snd.snd.snd.snd.snd.snd.snd.snd.fst, y2.snd.snd.snd.snd.snd.snd.snd.snd.snd.fst, y2.snd.snd.snd.snd.snd.snd.snd.snd.snd.snd.fst, y2.snd.snd.snd.snd.snd.snd.snd.snd.snd.snd.snd.fst, y2.snd.snd.snd.snd.snd.snd.snd.snd.snd.snd.snd.snd.fst, y2.snd.snd.snd.snd.snd.snd.snd.snd.snd.snd.snd.snd.snd.fst] (Int.toNat y2.snd.snd.fst) 0)) fun y4 =>
            some (Sum.inl (y2.fst, y2.snd.fst, y2.snd.snd.fst, y4.fst, y2.snd.snd.snd.snd.fst, y2.snd.snd.snd.snd.snd.fst, y2.snd.snd.snd.snd.snd.snd.fst, y2.snd.snd.snd.snd.snd.snd.snd.fst, y2.snd.snd.snd.snd.snd.snd.snd.snd.fst, y2.snd.snd.snd.snd.snd.snd.snd.snd.snd.fst, y2.snd.snd.snd.snd.snd.snd.snd.snd.snd.snd.fst, y2.snd.snd.snd.snd.snd.snd.snd.snd.snd.snd.snd.fst, y2.snd.snd.snd.snd.snd.snd.snd.snd.snd.snd.snd.snd.fst, y2.snd.snd.snd.snd.snd.snd.snd.snd.snd.snd.snd.snd.snd.fst, y2.snd.snd.snd.snd.snd.snd.snd.snd.snd.snd.snd.snd.snd.snd.fst, y2.snd.snd.snd.snd.snd.snd.snd.snd.snd.snd.snd.snd.snd.snd.snd.fst, y2.snd.snd.snd.snd.snd.snd.snd.snd.snd.snd.snd.snd.snd.snd.snd.snd.fst, y2.snd.snd.snd.snd.snd.snd.snd.snd.snd.snd.snd.snd.snd.snd.snd.snd.snd.fst, y2.snd.snd.snd.snd.snd.snd.snd.snd.snd.snd.snd.snd.snd.snd.snd.snd.snd.snd.fst, y2.snd.snd.snd.snd.snd.snd.snd.snd.snd.snd.snd.snd.snd.snd.snd.snd.snd.snd.snd.fst, ()))
          else
           none
         else
          bif inRange y2.snd.snd.fst 6 then
           Option.bind (f49 y2.snd.snd.snd.snd.fst (List.getD [y2.snd.snd.snd.snd.snd.snd.snd.snd.snd.snd.snd.snd.snd.snd.fst, y2.snd.snd.snd.snd.snd.snd.snd.snd.snd.snd.snd.snd.snd.snd.snd.fst, y2.snd.snd.snd.snd.snd.snd.snd.snd.snd.snd.snd.snd.snd.snd.snd.snd.fst, y2.snd.snd.snd.snd.snd.snd.snd.snd.snd.snd.snd.snd.snd.snd.snd.snd.snd.fst, y2.snd.snd.snd.snd.snd.snd.snd.snd.snd.snd.snd.snd.snd.snd.snd.snd.snd.snd.fst, y2.snd.snd.snd.snd.snd.snd.snd.snd.snd.snd.snd.snd.snd.snd.snd.snd.snd.snd.snd.fst] (Int.toNat y2.snd.snd.fst) 0)) fun y5 =>
            some (Sum.inl (y2.fst, y2.snd.fst, y2.snd.snd.fst, y2.snd.snd.snd.fst, y5.fst, y2.snd.snd.snd.snd.snd.fst, y2.snd.snd.snd.snd.snd.snd.fst, y2.snd.snd.snd.snd.snd.snd.snd.fst, y2.snd.snd.snd.snd.snd.snd.snd.snd.fst, y2.snd.snd.snd.snd.snd.snd.snd.snd.snd.fst, y2.snd.snd.snd.snd.snd.snd.snd.snd.snd.snd.fst, y2.snd.snd.snd.snd.snd.snd.snd.snd.snd.snd.snd.fst, y2.snd.snd.snd.snd.snd.snd.snd.snd.snd.snd.snd.snd.fst, y2.snd.snd.snd.snd.snd.snd.snd.snd.snd.snd.snd.snd.snd.fst, y2.snd.snd.snd.snd.snd.snd.snd.snd.snd.snd.snd.snd.snd.snd.fst, y2.snd.snd.snd.snd.snd.snd.snd.snd.snd.snd.snd.snd.snd.snd.snd.fst, y2.snd.snd.snd.snd.snd.snd.snd.snd.snd.snd.snd.snd.snd.snd.snd.snd.fst, y2.snd.snd.snd.snd.snd.snd.snd.snd.snd.snd.snd.snd.snd.snd.snd.snd.snd.fst, y2.snd.snd.snd.snd.snd.snd.snd.snd.snd.snd.snd.snd.snd.snd.snd.snd.snd.snd.fst, y2.snd.snd.snd.snd.snd.snd.snd.snd.snd.snd.snd.snd.snd.snd.snd.snd.snd.snd.snd.fst, ()))
          else
           none
        else
         none
       else
        bif inRange y2.snd.snd.fst 6 then
         Option.bind (f49 y2.snd.snd.snd.snd.fst (List.getD [y2.snd.snd.snd.snd.snd.snd.snd.snd.snd.snd.snd.snd.snd.snd.fst, y2.snd.snd.snd.snd.snd.snd.snd.snd.snd.snd.snd.snd.snd.snd.snd.fst, y2.snd.snd.snd.snd.snd.snd.snd.snd.snd.snd.snd.snd.snd.snd.snd.snd.fst, y2.snd.snd.snd.snd.snd.snd.snd.snd.snd.snd.snd.snd.snd.snd.snd.snd.snd.fst, y2.snd.snd.snd.snd.snd.snd.snd.snd.snd.snd.snd.snd.snd.snd.snd.snd.snd.snd.fst, y2.snd.snd.snd.snd.snd.snd.snd.snd.snd.snd.snd.snd.snd.snd.snd.snd.snd.snd.snd.fst] (Int.toNat y2.snd.snd.fst) 0)) fun y6 =>
          some (Sum.inl (y2.fst, y2.snd.fst, y2.snd.snd.fst, y2.snd.snd.snd.fst, y6.fst, y2.snd.snd.snd.snd.snd.fst, y2.snd.snd.snd.snd.snd.snd.fst, y2.snd.snd.snd.snd.snd.snd.snd.fst, y2.snd.snd.snd.snd.snd.snd.snd.snd.fst, y2.snd.snd.snd.snd.snd.snd.snd.snd.snd.fst, y2.snd.snd.snd.snd.snd.snd.snd.snd.snd.snd.fst, y2.snd.snd.snd.snd.snd.snd.snd.snd.snd.snd.snd.fst, y2.snd.snd.snd.snd.snd.snd.snd.snd.snd.snd.snd.snd.fst, y2.snd.snd.snd.snd.snd.snd.snd.snd.snd.snd.snd.snd.snd.fst, y2.snd.snd.snd.snd.snd.snd.snd.snd.snd.snd.snd.snd.snd.snd.fst, y2.snd.snd.snd.snd.snd.snd.snd.snd.snd.snd.snd.snd.snd.snd.snd.fst, y2.snd.snd.snd.snd.snd.snd.snd.snd.snd.snd.snd.snd.snd.snd.snd.snd.fst, y2.snd.snd.snd.snd.snd.snd.snd.snd.snd.snd.snd.snd.snd.snd.snd.snd.snd.fst, y2.snd.snd.snd.snd.snd.snd.snd.snd.snd.snd.snd.snd.snd.snd.snd.snd.snd.snd.fst, y2.snd.snd.snd.snd.snd.snd.snd.snd.snd.snd.snd.snd.snd.snd.snd.snd.snd.snd.snd.fst, ()))
        else
         none
     else
      none
    else
     bif !y2.snd.snd.snd.snd.snd.snd.fst then
      bif inRange y2.snd.snd.fst 6 then
       bif y2.snd.snd.snd.snd.fst == List.getD [y2.snd.snd.snd.snd.snd.snd.snd.snd.snd.snd.snd.snd.snd.snd.fst, y2.snd.snd.snd.snd.snd.snd.snd.snd.snd.snd.snd.snd.snd.snd.snd.fst, y2.snd.snd.snd.snd.snd.snd.snd.snd.snd.snd.snd.snd.snd.snd.snd.snd.fst, y2.snd.snd.snd.snd.snd.snd.snd.snd.snd.snd.snd.snd.snd.snd.snd.snd.snd.fst, y2.snd.snd.snd.snd.snd.snd.snd.snd.snd.snd.snd.snd.snd.snd.snd.snd.snd.snd.fst, y2.snd.snd.snd.snd.snd.snd.snd.snd.snd.snd.snd.snd.snd.snd.snd.snd.snd.snd.snd.fst] (Int.toNat y2.snd.snd.fst) 0 then
        bif inRange y2.snd.snd.fst 6 then
         Option.bind (f49 y2.snd.snd.snd.fst (List.getD [y2.snd.snd.snd.snd.snd.snd.snd.snd.fst, y2.snd.snd.snd.snd.snd.snd.snd.snd.snd.fst, y2.snd.snd.snd.snd.snd.snd.snd.snd.snd.snd.fst, y2.snd.snd.snd.snd.snd.snd.snd.snd.snd.snd.snd.fst, y2.snd.snd.snd.snd.snd.snd.snd.snd.snd.snd.snd.snd.fst, y2.snd.snd.snd.snd.snd.snd.snd.snd.snd.snd.snd.snd.snd.fst] (Int.toNat y2.snd.snd.fst) 0)) fun y7 =>
          some (Sum.inl (y2.fst, y2.snd.fst, y2.snd.snd.fst, y7.fst, y2.snd.snd.snd.snd.fst, y2.snd.snd.snd.snd.snd.fst, y2.snd.snd.snd.snd.snd.snd.fst, y2.snd.snd.snd.snd.snd.snd.snd.fst, y2.snd.snd.snd.snd.snd.snd.snd.snd.fst, y2.snd.snd.snd.snd.snd.snd.snd.snd.snd.fst, y2.snd.snd.snd.snd.snd.snd.snd.snd.snd.snd.fst, y2.snd.snd.snd.snd.snd.snd.snd.snd.snd.snd.snd.fst, y2.snd.snd.snd.snd.snd.snd.snd.snd.snd.snd.snd.snd.fst, y2.snd.snd.snd.snd.snd.snd.snd.snd.snd.snd.snd.snd.snd.fst, y2.snd.snd.snd.snd.snd.snd.snd.snd.snd.snd.snd.snd.snd.snd.fst, y2.snd.snd.snd.snd.snd.snd.snd.snd.snd.snd.snd.snd.snd.snd.snd.fst, y2.snd.snd.snd.snd.snd.snd.snd.snd.snd.snd.snd.snd.snd.snd.snd.snd.fst, y2.snd.snd.snd.snd.snd.snd.snd.snd.snd.snd.snd.snd.snd.snd.snd.snd.snd.fst, y2.snd.snd.snd.snd.snd.snd.snd.snd.snd.snd.snd.snd.snd.snd.snd.snd.snd.snd.fst, y2.snd.snd.snd.snd.snd.snd.snd.snd.snd.snd.snd.snd.snd.snd.snd.snd.snd.snd.snd.fst, ()))
        else
         none
       else
        bif inRange y2.snd.snd.fst 6 then
         Option.bind (f49 y2.snd.snd.snd.snd.fst (List.getD [y2.snd.snd.snd.snd.snd.snd.snd.snd.snd.snd.snd.snd.snd.snd.fst, y2.snd.snd.snd.snd.snd.snd.snd.snd.snd.snd.snd.snd.snd.snd.snd.fst, y2.snd.snd.snd.snd.snd.snd.snd.snd.snd.snd.snd.snd.snd.snd.snd.snd.fst, y2.snd.snd.snd.snd.snd.snd.snd.snd.snd.snd.snd.snd.snd.snd.snd.snd.snd.fst, y2.snd.snd.snd.snd.snd.snd.snd.snd.snd.snd.snd.snd.snd.snd.snd.snd.snd.snd.fst, y2.snd.snd.snd.snd.snd.snd.snd.snd.snd.snd.snd.snd.snd.snd.snd.snd.snd.snd.snd.fst] (Int.toNat y2.snd.snd.fst) 0)) fun y8 =>
          some (Sum.inl (y2.fst, y2.snd.fst, y2.snd.snd.fst, y2.snd.snd.snd.fst, y8.fst, y2.snd.snd.snd.snd.snd.fst, y2.snd.snd.snd.snd.snd.snd.fst, y2.snd.snd.snd.snd.snd.snd.snd.fst, y2.snd.snd.snd.snd.snd.snd.snd.snd.fst, y2.snd.snd.snd.snd.snd.snd.snd.snd.snd.fst, y2.snd.snd.snd.snd.snd.snd.snd.snd.snd.snd.fst, y2.snd.snd.snd.snd.snd.snd.snd.snd.snd.snd.snd.fst, y2.snd.snd.snd.snd.snd.snd.snd.snd.snd.snd.snd.snd.fst, y2.snd.snd.snd.snd.snd.snd.snd.snd.snd.snd.snd.snd.snd.fst, y2.snd.snd.snd.snd.snd.snd.snd.snd.snd.snd.snd.snd.snd.snd.fst, y2.snd.snd.snd.snd.snd.snd.snd.snd.snd.snd.snd.snd.snd.snd.snd.fst, y2.snd.snd.snd.snd.snd.snd.snd.snd.snd.snd.snd.snd.snd.snd.snd.snd.fst, y2.snd.snd.snd.snd.snd.snd.snd.snd.snd.snd.snd.snd.snd.snd.snd.snd.snd.fst, y2.snd.snd.snd.snd.snd.snd.snd.snd.snd.snd.snd.snd.snd.snd.snd.snd.snd.snd.fst, y2.snd.snd.snd.snd.snd.snd.snd.snd.snd.snd.snd.snd.snd.snd.snd.snd.snd.snd.snd.fst, ()))
        else
         none
      else
       none
     else
      bif inRange y2.snd.snd.fst 6 then
       Option.bind (f49 y2.snd.snd.snd.snd.fst (List.getD [y2.snd.snd.snd.snd.snd.snd.snd.snd.snd.snd.snd.snd.snd.snd.fst, y2.snd.snd.snd.snd.snd.snd.snd.snd.snd.snd.snd.snd.snd.snd.snd.fst, y2.snd.snd.snd.snd.snd.snd.snd.snd.snd.snd.snd.snd.snd.snd.snd.snd.fst, y2.snd.snd.snd.snd.snd.snd.snd.snd.snd.snd.snd.snd.snd.snd.snd.snd.snd.fst, y2.snd.snd.snd.snd.snd.snd.snd.snd.snd.snd.snd.snd.snd.snd.snd.snd.snd.snd.fst, y2.snd.snd.snd.snd.snd.snd.snd.snd.snd.snd.snd.snd.snd.snd.snd.snd.snd.snd.snd.fst] (Int.toNat y2.snd.snd.fst) 0)) fun y9 =>
        some (Sum.inl (y2.fst, y2.snd.fst, y2.snd.snd.fst, y2.snd.snd.snd.fst, y9.fst, y2.snd.snd.snd.snd.snd.fst, y2.snd.snd.snd.snd.snd.snd.fst, y2.snd.snd.snd.snd.snd.snd.snd.fst, y2.snd.snd.snd.snd.snd.snd.snd.snd.fst, y2.snd.snd.snd.snd.snd.snd.snd.snd.snd.fst, y2.snd.snd.snd.snd.snd.snd.snd.snd.snd.snd.fst, y2.snd.snd.snd.snd.snd.snd.snd.snd.snd.snd.snd.fst, y2.snd.snd.snd.snd.snd.snd.snd.snd.snd.snd.snd.snd.fst, y2.snd.snd.snd.snd.snd.snd.snd.snd.snd.snd.snd.snd.snd.fst, y2.snd.snd.snd.snd.snd.snd.snd.snd.snd.snd.snd.snd.snd.snd.fst, y2.snd.snd.snd.snd.snd.snd.snd.snd.snd.snd.snd.snd.snd.snd.snd.fst, y2.snd.snd.snd.snd.snd.snd.snd.snd.snd.snd.snd.snd.snd.snd.snd.snd.fst, y2.snd.snd.snd.snd.snd.snd.snd.snd.snd.snd.snd.snd.snd.snd.snd.snd.snd.fst, y2.snd.snd.snd.snd.snd.snd.snd.snd.snd.snd.snd.snd.snd.snd.snd.snd.snd.snd.fst, y2.snd.snd.snd.snd.snd.snd.snd.snd.snd.snd.snd.snd.snd.snd.snd.snd.snd.snd.snd.fst, ()))
      else
       none
   ) fun y10 =>
    Sum.elim (fun y11 =>
     Option.bind (f48 y11.snd.snd.snd.fst y11.snd.snd.snd.snd.fst y11.snd.snd.snd.snd.snd.fst y11.snd.snd.snd.snd.snd.snd.snd.fst) fun y12 =>
      rec (y11.fst, y11.snd.fst, y11.snd.snd.fst, y11.snd.snd.snd.fst, y11.snd.snd.snd.snd.fst, y12.fst, y11.snd.snd.snd.snd.snd.snd.fst, y12.snd.fst, y11.snd.snd.snd.snd.snd.snd.snd.snd.fst, y11.snd.snd.snd.snd.snd.snd.snd.snd.snd.fst, y11.snd.snd.snd.snd.snd.snd.snd.snd.snd.snd.fst, y11.snd.snd.snd.snd.snd.snd.snd.snd.snd.snd.snd.fst, y11.snd.snd.snd.snd.snd.snd.snd.snd.snd.snd.snd.snd.fst, y11.snd.snd.snd.snd.snd.snd.snd.snd.snd.snd.snd.snd.snd.fst, y11.snd.snd.snd.snd.snd.snd.snd.snd.snd.snd.snd.snd.snd.snd.fst, y11.snd.snd.snd.snd.snd.snd.snd.snd.snd.snd.snd.snd.snd.snd.snd.fst, y11.snd.snd.snd.snd.snd.snd.snd.snd.snd.snd.snd.snd.snd.snd.snd.snd.fst, y11.snd.snd.snd.snd.snd.snd.snd.snd.snd.snd.snd.snd.snd.snd.snd.snd.snd.fst, y11.snd.snd.snd.snd.snd.snd.snd.snd.snd.snd.snd.snd.snd.snd.snd.snd.snd.snd.fst, y11.snd.snd.snd.snd.snd.snd.snd.snd.snd.snd.snd.snd.snd.snd.snd.snd.snd.snd.snd.fst, ())
    ) (fun z13 =>
     some (z13)
    ) (y10)
  ) (fun z14 =>
   some (z14)
  ) (y1)
 ) (100000000000000000000) (x)
def f16.L4 (x : Int × Int × Int × Bool × Int × List Int × List Int × Unit) : Option (Int × Int × Bool × List Int × List Int × Unit ⊕ List Int × List (Int × Int × Int × Int × Int × Int × Int × Int × Int × Int × Int) × List (Int × Int × Int × Int) × Unit) :=
 it (X := Int × Int × Int × Bool × Int × List Int × List Int × Unit) (fun rec x =>
 bif Decidable.decide (x.snd.snd.snd.snd.fst < 384) then
  bif !x.snd.snd.snd.fst then
   bif inRange x.snd.snd.snd.snd.fst (List.length x.snd.snd.snd.snd.snd.fst) then
    bif List.getD x.snd.snd.snd.snd.snd.fst (Int.toNat x.snd.snd.snd.snd.fst) 0 == 1 then
     bif inRange x.snd.snd.snd.snd.fst (List.length x.snd.snd.snd.snd.snd.snd.fst) then
      bif inRange x.snd.snd.fst (List.length x.snd.snd.snd.snd.snd.snd.fst) then
       bif List.getD x.snd.snd.snd.snd.snd.snd.fst (Int.toNat x.snd.snd.snd.snd.fst) 0 == Go.IntKind.wrap Go.IntKind.i64 (Int.tdiv (List.getD x.snd.snd.snd.snd.snd.snd.fst (Int.toNat x.snd.snd.fst) 0) 2) then
        bif inRange x.snd.snd.snd.snd.fst (List.length x.snd.snd.snd.snd.snd.fst) then
         rec (x.fst, x.snd.fst, x.snd.snd.fst, Bool.true, Go.IntKind.wrap Go.IntKind.i64 (x.snd.snd.snd.snd.fst + 1), List.set x.snd.snd.snd.snd.snd.fst (Int.toNat x.snd.snd.snd.snd.fst) 5, x.snd.snd.snd.snd.snd.snd.fst, ())
        else
         none
       else
        rec (x.fst, x.snd.fst, x.snd.snd.fst, x.snd.snd.snd.fst, Go.IntKind.wrap Go.IntKind.i64 (x.snd.snd.snd.snd.fst + 1), x.snd.snd.snd.snd.snd.fst, x.snd.snd.snd.snd.snd.snd.fst, ())
      else
       none
     else
      none
    else
     rec (x.fst, x.snd.fst, x.snd.snd.fst, x.snd.snd.snd.fst, Go.IntKind.wrap Go.IntKind.i64 (x.snd.snd.snd.snd.fst + 1), x.snd.snd.snd.snd.snd.fst, x.snd.snd.snd.snd.snd.snd.fst, ())
   else
    none
  else
   some (Sum.inl (x.fst, x.snd.fst, x.snd.snd.snd.fst, x.snd.snd.snd.snd.snd.fst, x.snd.snd.snd.snd.snd.snd.fst, ()))
 else
  some (Sum.inl (x.fst, x.snd.fst, x.snd.snd.snd.fst, x.snd.snd.snd.snd.snd.fst, x.snd.snd.snd.snd.snd.snd.fst, ()))
 ) (100000000000000000000) (x)
def f16.L5 (x : Int × Int × Bool × Int × List Int × List Int × List Bool × List (Int × Int × Int × Int × Int × Int × Int × Int × Int × Int × Int) × Unit) : Option (Int × Int × Bool × List Int × List Int × List (Int × Int × Int × Int × Int × Int × Int × Int × Int × Int × Int) × Unit ⊕ List Int × List (Int × Int × Int × Int × Int × Int × Int × Int × Int × Int × Int) × List (Int × Int × Int × Int) × Unit) :=
 it (X := Int × Int × Bool × Int × List Int × List Int × List Bool × List (Int × Int × Int × Int × Int × Int × Int × Int × Int × Int × Int) × Unit) (fun rec x =>
 bif Decidable.decide (x.snd.snd.snd.fst ≤ Go.IntKind.wrap Go.IntKind.i64 (x.snd.fst + 1)) then
  Option.bind (f50 x.snd.snd.snd.snd.fst x.snd.snd.snd.snd.snd.fst 4 x.snd.snd.snd.snd.snd.snd.fst x.fst x.snd.fst (Go.IntKind.wrap Go.IntKind.i64 (7 + x.snd.snd.snd.fst))) fun y0 =>
   bif Decidable.decide (y0.fst < 0) then
    some (Sum.inl (x.fst, x.snd.fst, x.snd.snd.fst, x.snd.snd.snd.snd.fst, x.snd.snd.snd.snd.snd.fst, x.snd.snd.snd.snd.snd.snd.snd.fst, ()))
   else
    bif inRange y0.fst (List.length x.snd.snd.snd.snd.snd.snd.fst) then
     Option.bind (f47 x.fst x.snd.fst (Go.IntKind.wrap Go.IntKind.i64 (16 + x.snd.snd.snd.fst)) 1 (minI (Go.IntKind.wrap Go.IntKind.i64 (x.snd.fst + 1)) 3)) fun y1 =>
      Option.bind (f37 (Go.IntKind.wrap Go.IntKind.i64 (2 + y1.fst))) fun y2 =>
       bif Decidable.decide (List.length x.snd.snd.snd.snd.snd.snd.snd.fst + 1 ≤ limit 88) then
        rec (x.fst, x.snd.fst, x.snd.snd.fst, Go.IntKind.wrap Go.IntKind.i64 (x.snd.snd.snd.fst + 1), x.snd.snd.snd.snd.fst, x.snd.snd.snd.snd.snd.fst, List.set x.snd.snd.snd.snd.snd.snd.fst (Int.toNat y0.fst) Bool.true, x.snd.snd.snd.snd.snd.snd.snd.fst ++ [(y2.fst, y2.snd.fst, y2.snd.snd.fst, Int.tmod y0.fst 24, Go.IntKind.wrap Go.IntKind.i64 (Int.tdiv y0.fst 24), y2.snd.snd.snd.snd.snd.fst, y2.snd.snd.snd.snd.snd.snd.fst, y2.snd.snd.snd.snd.snd.snd.snd.fst, y2.snd.snd.snd.snd.snd.snd.snd.snd.fst, y2.snd.snd.snd.snd.snd.snd.snd.snd.snd.fst, y2.snd.snd.snd.snd.snd.snd.snd.snd.snd.snd.fst)], ())
       else
        none
    else
     none
 else
  some (Sum.inl (x.fst, x.snd.fst, x.snd.snd.fst, x.snd.snd.snd.snd.fst, x.snd.snd.snd.snd.snd.fst, x.snd.snd.snd.snd.snd.snd.snd.fst, ()))
 ) (100000000000000000000) (x)
def f16.L6 (x : Int × Int × Bool × Int × List Int × List (Int × Int × Int × Int × Int × Int × Int × Int × Int × Int × Int) × List (Int × Int × Int × Int) × Unit) : Option (List Int × List (Int × Int × Int × Int × Int × Int × Int × Int × Int × Int × Int) × List (Int × Int × Int × Int) × Unit ⊕ List Int × List (Int × Int × Int × Int × Int × Int × Int × Int × Int × Int × Int) × List (Int × Int × Int × Int) × Unit) :=
 it (X := Int × Int × Bool × Int × List Int × List (Int × Int × Int × Int × Int × Int × Int × Int × Int × Int × Int) × List (Int × Int × Int × Int) × Unit) (fun rec x =>
 bif Decidable.decide (x.snd.snd.snd.fst < 3) then
  bif x.snd.snd.fst then
   Option.bind (f47 x.fst x.snd.fst (Go.IntKind.wrap Go.IntKind.i64 (50 + x.snd.snd.snd.fst)) 1 3) fun y0 =>
    bif Decidable.decide (List.length x.snd.snd.snd.snd.snd.snd.fst + 1 ≤ limit 32) then
     rec (x.fst, x.snd.fst, x.snd.snd.fst, Go.IntKind.wrap Go.IntKind.i64 (x.snd.snd.snd.fst + 1), x.snd.snd.snd.snd.fst, x.snd.snd.snd.snd.snd.fst, x.snd.snd.snd.snd.snd.snd.fst ++ [(Go.IntKind.wrap Go.IntKind.i64 (1 + y0.fst), 4, x.snd.snd.snd.fst, 0)], ())
    else
     none
  else
   some (Sum.inl (x.snd.snd.snd.snd.fst, x.snd.snd.snd.snd.snd.fst, x.snd.snd.snd.snd.snd.snd.fst, ()))
 else
  some (Sum.inl (x.snd.snd.snd.snd.fst, x.snd.snd.snd.snd.snd.fst, x.snd.snd.snd.snd.snd.snd.fst, ()))
 ) (100000000000000000000) (x)
def f16.L7 (x : Int × Int × Bool × Int × List Int × List Int × List Bool × List (Int × Int × Int × Int × Int × Int × Int × Int × Int × Int × Int) × List (Int × Int × Int × Int) × Unit) : Option (List Int × List (Int × Int × Int × Int × Int × Int × Int × Int × Int × Int × Int) × List (Int × Int × Int × Int) × Unit) :=
 it (X := Int × Int × Bool × Int × List Int × List Int × List Bool × List (Int × Int × Int × Int × Int × Int × Int × Int × Int × Int × Int) × List (Int × Int × Int × Int) × Unit) (fun rec x =>
 bif Decidable.decide (x.snd.snd.snd.fst < 4) then
  Option.bind (f50 x.snd.snd.snd.snd.fst x.snd.snd.snd.snd.snd.fst 0 x.snd.snd.snd.snd.snd.snd.fst x.fst x.snd.fst (Go.IntKind.wrap Go.IntKind.i64 (40 + x.snd.snd.snd.fst))) fun y0 =>
   bif Decidable.decide (y0.fst < 0) then
    rec (x.fst, x.snd.fst, x.snd.snd.fst, Go.IntKind.wrap Go.IntKind.i64 (x.snd.snd.snd.fst + 1), x.snd.snd.snd.snd.fst, x.snd.snd.snd.snd.snd.fst, x.snd.snd.snd.snd.snd.snd.fst, x.snd.snd.snd.snd.snd.snd.snd.fst, x.snd.snd.snd.snd.snd.snd.snd.snd.fst, ())
   else
    bif inRange y0.fst (List.length x.snd.snd.snd.snd.snd.snd.fst) then
     Option.bind (f47 x.fst x.snd.fst (Go.IntKind.wrap Go.IntKind.i64 (40 + x.snd.snd.snd.fst)) 1 4) fun y1 =>
      bif Decidable.decide (List.length x.snd.snd.snd.snd.snd.snd.snd.snd.fst + 1 ≤ limit 32) then
       rec (x.fst, x.snd.fst, x.snd.snd.fst, Go.IntKind.wrap Go.IntKind.i64 (x.snd.snd.snd.fst + 1), x.snd.snd.snd.snd.fst, x.snd.snd.snd.snd.snd.fst, List.set x.snd.snd.snd.snd.snd.snd.fst (Int.toNat y0.fst) Bool.true, x.snd.snd.snd.snd.snd.snd.snd.fst, x.snd.snd.snd.snd.snd.snd.snd.snd.fst ++ [(Go.IntKind.wrap Go.IntKind.i64 (1 + y1.fst), 1, Int.tmod y0.fst 24, Go.IntKind.wrap Go.IntKind.i64 (Int.tdiv y0.fst 24))], ())
      else
       none
    else
     none
 else
  Option.bind (α := List Int × List (Int × Int × Int × Int × Int × Int × Int × Int × Int × Int × Int) × List (Int × Int × Int × Int) × Unit ⊕ List Int × List (Int × Int × Int × Int × Int × Int × Int × Int × Int × Int × Int) × List (Int × Int × Int × Int) × Unit) (
   f16.L6 ((x.fst, x.snd.fst, x.snd.snd.fst, 0, x.snd.snd.snd.snd.fst, x.snd.snd.snd.snd.snd.snd.snd.fst, x.snd.snd.snd.snd.snd.snd.snd.snd.fst, ()))
  ) fun y2 =>
   Sum.elim (fun y3 =>
    some ((y3.fst, y3.snd.fst, y3.snd.snd.fst, ()))
   ) (fun z4 =>
    some (z4)
   ) (y2)
 ) (100000000000000000000) (x)
def f16.L8 (x : Int × Int × Int × Int × List Int × List Int × Unit) : Option (List Int × List (Int × Int × Int × Int × Int × Int × Int × Int × Int × Int × Int) × List (Int × Int × Int × Int) × Unit) :=
 it (X := Int × Int × Int × Int × List Int × List Int × Unit) (fun rec x =>
 bif Decidable.decide (x.snd.snd.snd.fst < 384) then
  bif inRange x.snd.snd.snd.fst (List.length x.snd.snd.snd.snd.snd.fst) then
   bif inRange x.snd.snd.fst (List.length x.snd.snd.snd.snd.snd.fst) then
    bif Decidable.decide (List.getD x.snd.snd.snd.snd.snd.fst (Int.toNat x.snd.snd.snd.fst) 0 > List.getD x.snd.snd.snd.snd.snd.fst (Int.toNat x.snd.snd.fst) 0) then
     rec (x.fst, x.snd.fst, x.snd.snd.snd.fst, Go.IntKind.wrap Go.IntKind.i64 (x.snd.snd.snd.fst + 1), x.snd.snd.snd.snd.fst, x.snd.snd.snd.snd.snd.fst, ())
    else
     rec (x.fst, x.snd.fst, x.snd.snd.fst, Go.IntKind.wrap Go.IntKind.i64 (x.snd.snd.snd.fst + 1), x.snd.snd.snd.snd.fst, x.snd.snd.snd.snd.snd.fst, ())
   else
    none
  else
   none
 else
  bif inRange x.snd.snd.fst (List.length x.snd.snd.snd.snd.fst) then
   Option.bind (α := Int × Int × Bool × List Int × List Int × Unit ⊕ List Int × List (Int × Int × Int × Int × Int × Int × Int × Int × Int × Int × Int) × List (Int × Int × Int × Int) × Unit) (
    Option.bind (f47 x.fst x.snd.fst 6 0 2) fun y0 =>
     bif y0.fst == 0 then
      f16.L4 ((x.fst, x.snd.fst, x.snd.snd.fst, Bool.false, 0, List.set x.snd.snd.snd.snd.fst (Int.toNat x.snd.snd.fst) 4, x.snd.snd.snd.snd.snd.fst, ()))
     else
      some (Sum.inl (x.fst, x.snd.fst, Bool.false, List.set x.snd.snd.snd.snd.fst (Int.toNat x.snd.snd.fst) 4, x.snd.snd.snd.snd.snd.fst, ()))
   ) fun y1 =>
    Sum.elim (fun y2 =>
     Option.bind (α := Int × Int × Bool × List Int × List Int × List (Int × Int × Int × Int × Int × Int × Int × Int × Int × Int × Int) × Unit ⊕ List Int × List (Int × Int × Int × Int × Int × Int × Int × Int × Int × Int × Int) × List (Int × Int × Int × Int) × Unit) (
      f16.L5 ((y2.fst, y2.snd.fst, y2.snd.snd.fst, 0, y2.snd.snd.snd.fst, y2.snd.snd.snd.snd.fst, List.replicate 384 Bool.false, [], ()))
     ) fun y3 =>
      Sum.elim (fun y4 =>
       f16.L7 ((y4.fst, y4.snd.fst, y4.snd.snd.fst, 0, y4.snd.snd.snd.fst, y4.snd.snd.snd.snd.fst, List.replicate 384 Bool.false, y4.snd.snd.snd.snd.snd.fst, [], ()))
      ) (fun z5 =>
       some (z5)
      ) (y3)
    ) (fun z6 =>
     some (z6)
    ) (y1)
  else
   none
 ) (100000000000000000000) (x)
def f16.L9 (x : Int × Int × Int × List Int × Int × Int × Int × Int × Int × Int × Int × Int × Int × Int × Int × Int × Unit) : Option (List Int × List (Int × Int × Int × Int × Int × Int × Int × Int × Int × Int × Int) × List (Int × Int × Int × Int) × Unit) :=
 it (X := Int × Int × Int × List Int × Int × Int × Int × Int × Int × Int × Int × Int × Int × Int × Int × Int × Unit) (fun rec x =>
 bif Decidable.decide (x.snd.snd.fst < 6) then
  bif inRange (Go.IntKind.wrap Go.IntKind.i64 (x.snd.snd.fst - 1)) 6 then
   bif inRange (Go.IntKind.wrap Go.IntKind.i64 (x.snd.snd.fst - 1)) 6 then
    Option.bind (f48 (List.getD [x.snd.snd.snd.snd.fst, x.snd.snd.snd.snd.snd.fst, x.snd.snd.snd.snd.snd.snd.fst, x.snd.snd.snd.snd.snd.snd.snd.fst, x.snd.snd.snd.snd.snd.snd.snd.snd.fst, x.snd.snd.snd.snd.snd.snd.snd.snd.snd.fst] (Int.toNat (Go.IntKind.wrap Go.IntKind.i64 (x.snd.snd.fst - 1))) 0) (List.getD [x.snd.snd.snd.snd.snd.snd.snd.snd.snd.snd.fst, x.snd.snd.snd.snd.snd.snd.snd.snd.snd.snd.snd.fst, x.snd.snd.snd.snd.snd.snd.snd.snd.snd.snd.snd.snd.fst, x.snd.snd.snd.snd.snd.snd.snd.snd.snd.snd.snd.snd.snd.fst, x.snd.snd.snd.snd.snd.snd.snd.snd.snd.snd.snd.snd.snd.snd.fst, x.snd.snd.snd.snd.snd.snd.snd.snd.snd.snd.snd.snd.snd.snd.snd.fst] (Int.toNat (Go.IntKind.wrap Go.IntKind.i64 (x.snd.snd.fst - 1))) 0) Bool.false x.snd.snd.snd.fst) fun y0 =>
     Option.bind (f47 x.fst x.snd.fst x.snd.snd.fst 4 2) fun y1 =>
      f16.L3 rec ((x.fst, x.snd.fst, x.snd.snd.fst, List.getD [x.snd.snd.snd.snd.fst, x.snd.snd.snd.snd.snd.fst, x.snd.snd.snd.snd.snd.snd.fst, x.snd.snd.snd.snd.snd.snd.snd.fst, x.snd.snd.snd.snd.snd.snd.snd.snd.fst, x.snd.snd.snd.snd.snd.snd.snd.snd.snd.fst] (Int.toNat (Go.IntKind.wrap Go.IntKind.i64 (x.snd.snd.fst - 1))) 0, List.getD [x.snd.snd.snd.snd.snd.snd.snd.snd.snd.snd.fst, x.snd.snd.snd.snd.snd.snd.snd.snd.snd.snd.snd.fst, x.snd.snd.snd.snd.snd.snd.snd.snd.snd.snd.snd.snd.fst, x.snd.snd.snd.snd.snd.snd.snd.snd.snd.snd.snd.snd.snd.fst, x.snd.snd.snd.snd.snd.snd.snd.snd.snd.snd.snd.snd.snd.snd.fst, x.snd.snd.snd.snd.snd.snd.snd.snd.snd.snd.snd.snd.snd.snd.snd.fst] (Int.toNat (Go.IntKind.wrap Go.IntKind.i64 (x.snd.snd.fst - 1))) 0, y0.fst, y1.fst == 0, y0.snd.fst, x.snd.snd.snd.snd.fst, x.snd.snd.snd.snd.snd.fst, x.snd.snd.snd.snd.snd.snd.fst, x.snd.snd.snd.snd.snd.snd.snd.fst, x.snd.snd.snd.snd.snd.snd.snd.snd.fst, x.snd.snd.snd.snd.snd.snd.snd.snd.snd.fst, x.snd.snd.snd.snd.snd.snd.snd.snd.snd.snd.fst, x.snd.snd.snd.snd.snd.snd.snd.snd.snd.snd.snd.fst, x.snd.snd.snd.snd.snd.snd.snd.snd.snd.snd.snd.snd.fst, x.snd.snd.snd.snd.snd.snd.snd.snd.snd.snd.snd.snd.snd.fst, x.snd.snd.snd.snd.snd.snd.snd.snd.snd.snd.snd.snd.snd.snd.fst, x.snd.snd.snd.snd.snd.snd.snd.snd.snd.snd.snd.snd.snd.snd.snd.fst, ()))
   else
    none
  else
   none
 else
  bif inRange (Go.IntKind.wrap Go.IntKind.i64 (Go.IntKind.wrap Go.IntKind.i64 (x.snd.snd.snd.snd.snd.snd.snd.snd.snd.snd.fst * 24) + x.snd.snd.snd.snd.fst)) (List.length x.snd.snd.snd.fst) then
   Option.bind (f18 (List.set x.snd.snd.snd.fst (Int.toNat (Go.IntKind.wrap Go.IntKind.i64 (Go.IntKind.wrap Go.IntKind.i64 (x.snd.snd.snd.snd.snd.snd.snd.snd.snd.snd.fst * 24) + x.snd.snd.snd.snd.fst))) 3) [] [Go.IntKind.wrap Go.IntKind.i64 (Go.IntKind.wrap Go.IntKind.i64 (x.snd.snd.snd.snd.snd.snd.snd.snd.snd.snd.fst * 24) + x.snd.snd.snd.snd.fst)]) fun y2 =>
    f16.L8 ((x.fst, x.snd.fst, Go.IntKind.wrap Go.IntKind.i64 (Go.IntKind.wrap Go.IntKind.i64 (x.snd.snd.snd.snd.snd.snd.snd.snd.snd.snd.fst * 24) + x.snd.snd.snd.snd.fst), 0, List.set x.snd.snd.snd.fst (Int.toNat (Go.IntKind.wrap Go.IntKind.i64 (Go.IntKind.wrap Go.IntKind.i64 (x.snd.snd.snd.snd.snd.snd.snd.snd.snd.snd.fst * 24) + x.snd.snd.snd.snd.fst))) 3, y2.fst, ()))
  else
   none
 ) (100000000000000000000) (x)
def f16.L10 (x : Int × Int × Int × List Int × Int × Int × Int × Int × Int × Int × Int × Int × Int × Int × Int × Int × Unit) : Option (List Int × List (Int × Int × Int × Int × Int × Int × Int × Int × Int × Int × Int) × List (Int × Int × Int × Int) × Unit) :=
 it (X := Int × Int × Int × List Int × Int × Int × Int × Int × Int × Int × Int × Int × Int × Int × Int × Int × Unit) (fun rec x =>
 bif Decidable.decide (x.snd.snd.fst < 6) then
  Option.bind (f47 x.fst x.snd.fst x.snd.snd.fst 0 5) fun y0 =>
   Option.bind (f47 x.fst x.snd.fst x.snd.snd.fst 1 4) fun y1 =>
    Option.bind (f47 x.fst x.snd.fst x.snd.snd.fst 2 (Go.IntKind.wrap Go.IntKind.i64 (23 - Go.IntKind.wrap Go.IntKind.i64 (3 + y0.fst)))) fun y2 =>
     Option.bind (f47 x.fst x.snd.fst x.snd.snd.fst 3 (Go.IntKind.wrap Go.IntKind.i64 (15 - Go.IntKind.wrap Go.IntKind.i64 (2 + y1.fst)))) fun y3 =>
      f16.L2 rec ((x.fst, x.snd.fst, x.snd.snd.fst, Go.IntKind.wrap Go.IntKind.i64 (3 + y0.fst), Go.IntKind.wrap Go.IntKind.i64 (2 + y1.fst), Go.IntKind.wrap Go.IntKind.i64 (1 + y2.fst), Go.IntKind.wrap Go.IntKind.i64 (1 + y3.fst), Go.IntKind.wrap Go.IntKind.i64 (1 + y3.fst), x.snd.snd.snd.fst, x.snd.snd.snd.snd.fst, x.snd.snd.snd.snd.snd.fst, x.snd.snd.snd.snd.snd.snd.fst, x.snd.snd.snd.snd.snd.snd.snd.fst, x.snd.snd.snd.snd.snd.snd.snd.snd.fst, x.snd.snd.snd.snd.snd.snd.snd.snd.snd.fst, x.snd.snd.snd.snd.snd.snd.snd.snd.snd.snd.fst, x.snd.snd.snd.snd.snd.snd.snd.snd.snd.snd.snd.fst, x.snd.snd.snd.snd.snd.snd.snd.snd.snd.snd.snd.snd.fst, x.snd.snd.snd.snd.snd.snd.snd.snd.snd.snd.snd.snd.snd.fst, x.snd.snd.snd.snd.snd.snd.snd.snd.snd.snd.snd.snd.snd.snd.fst, x.snd.snd.snd.snd.snd.snd.snd.snd.snd.snd.snd.snd.snd.snd.snd.fst, ()))
 else
  f16.L9 ((x.fst, x.snd.fst, 1, x.snd.snd.snd.fst, x.snd.snd.snd.snd.fst, x.snd.snd.snd.snd.snd.fst, x.snd.snd.snd.snd.snd.snd.fst, x.snd.snd.snd.snd.snd.snd.snd.fst, x.snd.snd.snd.snd.snd.snd.snd.snd.fst, x.snd.snd.snd.snd.snd.snd.snd.snd.snd.fst, x.snd.snd.snd.snd.snd.snd.snd.snd.snd.snd.fst, x.snd.snd.snd.snd.snd.snd.snd.snd.snd.snd.snd.fst, x.snd.snd.snd.snd.snd.snd.snd.snd.snd.snd.snd.snd.fst, x.snd.snd.snd.snd.snd.snd.snd.snd.snd.snd.snd.snd.snd.fst, x.snd.snd.snd.snd.snd.snd.snd.snd.snd.snd.snd.snd.snd.snd.fst, x.snd.snd.snd.snd.snd.snd.snd.snd.snd.snd.snd.snd.snd.snd.snd.fst, ()))
 ) (100000000000000000000) (x)
def f16 (a0 : Int) (a1 : Int) : Option (List Int × List (Int × Int × Int × Int × Int × Int × Int × Int × Int × Int × Int) × List (Int × Int × Int × Int) × Unit) :=
 f16.L10 ((a0, a1, 0, List.replicate 384 0, 0, 0, 0, 0, 0, 0, 0, 0, 0, 0, 0, 0, ()))
def f16.ins : Shape := ⟨[(0, .c (.int .i64)), (1, .c (.int .i64))], []⟩
def f16.outs : List Shape := [⟨[(0, .agg [.own 0, .own 1, .own 2])], [(0, .arr (.int .u8)), (1, .arr (.prod (.int .i64) (.prod (.int .i64) (.prod (.int .i64) (.prod (.int .i64) (.prod (.int .i64) (.prod (.int .i64) (.prod (.int .i64) (.prod (.int .i64) (.prod (.int .i64) (.prod (.int .i64) (.int .i64)))))))))))), (2, .arr (.prod (.int .i64) (.prod (.int .i64) (.prod (.int .i64) (.int .i64)))))]⟩]
def f16.S : FnSpec := ⟨f16.ins, f16.outs, [], fun x => f16 x.1 x.2.1⟩
def f16.E (fuel : Nat) : Env := ⟨tis, [(47, f47.S), (48, f48.S), (49, f49.S), (18, f18.S), (50, f50.S), (37, f37.S)], [], [(24, ⟨[(0, .c (.int .i64)), (1, .c (.int .i64)), (4, .c (.ptr 0 0)), (5, .c (.own 1)), (6, .c (.ptr 2 0)), (7, .c (.ptr 3 0)), (15, .c (.int .i64)), (16, .c (.int .i64)), (17, .c (.int .i64)), (18, .c (.bool)), (19, .c (.bool))], [(0, .box [.nils, .nils, .nils]), (1, .arr (.int .u8)), (2, .box [.int .i64, .int .i64, .int .i64, .int .i64, .int .i64, .int .i64]), (3, .box [.int .i64, .int .i64, .int .i64, .int .i64, .int .i64, .int .i64])]⟩), (27, ⟨[(0, .c (.int .i64)), (1, .c (.int .i64)), (4, .c (.ptr 0 0)), (5, .c (.own 1)), (6, .c (.ptr 2 0)), (7, .c (.ptr 3 0)), (15, .c (.int .i64)), (16, .c (.int .i64)), (17, .c (.int .i64)), (18, .c (.bool)), (19, .c (.bool))], [(0, .box [.nils, .nils, .nils]), (1, .arr (.int .u8)), (2, .box [.int .i64, .int .i64, .int .i64, .int .i64, .int .i64, .int .i64]), (3, .box [.int .i64, .int .i64, .int .i64, .int .i64, .int .i64, .int .i64])]⟩), (46, ⟨[(0, .c (.int .i64)), (1, .c (.int .i64)), (4, .c (.ptr 0 0)), (5, .c (.own 1)), (21, .c (.own 2)), (24, .c (.bool))], [(0, .box [.nils, .nils, .nils]), (1, .arr (.int .u8)), (2, .arr (.int .i64))]⟩), (57, ⟨[(0, .c (.int .i64)), (1, .c (.int .i64)), (4, .c (.ptr 0 0)), (5, .c (.own 1)), (21, .c (.own 2)), (24, .c (.bool)), (26, .c (.ptr 3 0))], [(0, .box [.nils, .nils, .nils]), (1, .arr (.int .u8)), (2, .arr (.int .i64)), (3, .box [.own 1, .own 4, .nils]), (4, .arr (.prod (.int .i64) (.prod (.int .i64) (.prod (.int .i64) (.prod (.int .i64) (.prod (.int .i64) (.prod (.int .i64) (.prod (.int .i64) (.prod (.int .i64) (.prod (.int .i64) (.prod (.int .i64) (.int .i64))))))))))))]⟩), (69, ⟨[(4, .c (.ptr 0 0)), (26, .c (.ptr 1 0))], [(0, .box [.nils, .nils, .nils]), (1, .box [.own 2, .own 3, .own 4]), (2, .arr (.int .u8)), (3, .arr (.prod (.int .i64) (.prod (.int .i64) (.prod (.int .i64) (.prod (.int .i64) (.prod (.int .i64) (.prod (.int .i64) (.prod (.int .i64) (.prod (.int .i64) (.prod (.int .i64) (.prod (.int .i64) (.int .i64)))))))))))), (4, .arr (.prod (.int .i64) (.prod (.int .i64) (.prod (.int .i64) (.int .i64)))))]⟩)], [(5, ⟨[(0, .c (.int .i64)), (1, .c (.int .i64)), (4, .c (.ptr 0 0)), (5, .c (.own 1)), (6, .c (.ptr 2 0)), (7, .c (.ptr 3 0)), (8, .c (.int .i64))], [(0, .box [.nils, .nils, .nils]), (1, .arr (.int .u8)), (2, .box [.int .i64, .int .i64, .int .i64, .int .i64, .int .i64, .int .i64]), (3, .box [.int .i64, .int .i64, .int .i64, .int .i64, .int .i64, .int .i64])]⟩), (10, ⟨[(0, .c (.int .i64)), (1, .c (.int .i64)), (4, .c (.ptr 0 0)), (5, .c (.own 1)), (6, .c (.ptr 2 0)), (7, .c (.ptr 3 0)), (8, .c (.int .i64)), (9, .c (.int .i64)), (10, .c (.int .i64)), (11, .c (.int .i64)), (12, .c (.int .i64)), (13, .c (.int .i64))], [(0, .box [.nils, .nils, .nils]), (1, .arr (.int .u8)), (2, .box [.int .i64, .int .i64, .int .i64, .int .i64, .int .i64, .int .i64]), (3, .box [.int .i64, .int .i64, .int .i64, .int .i64, .int .i64, .int .i64])]⟩), (13, ⟨[(0, .c (.int .i64)), (1, .c (.int .i64)), (4, .c (.ptr 0 0)), (5, .c (.own 1)), (6, .c (.ptr 2 0)), (7, .c (.ptr 3 0)), (8, .c (.int .i64)), (9, .c (.int .i64)), (10, .c (.int .i64)), (11, .c (.int .i64)), (12, .c (.int .i64)), (13, .c (.int .i64)), (14, .c (.int .i64))], [(0, .box [.nils, .nils, .nils]), (1, .arr (.int .u8)), (2, .box [.int .i64, .int .i64, .int .i64, .int .i64, .int .i64, .int .i64]), (3, .box [.int .i64, .int .i64, .int .i64, .int .i64, .int .i64, .int .i64])]⟩), (18, ⟨[(0, .c (.int .i64)), (1, .c (.int .i64)), (4, .c (.ptr 0 0)), (5, .c (.own 1)), (6, .c (.ptr 2 0)), (7, .c (.ptr 3 0)), (15, .c (.int .i64))], [(0, .box [.nils, .nils, .nils]), (1, .arr (.int .u8)), (2, .box [.int .i64, .int .i64, .int .i64, .int .i64, .int .i64, .int .i64]), (3, .box [.int .i64, .int .i64, .int .i64, .int .i64, .int .i64, .int .i64])]⟩), (23, ⟨[(0, .c (.int .i64)), (1, .c (.int .i64)), (4, .c (.ptr 0 0)), (5, .c (.own 1)), (6, .c (.ptr 2 0)), (7, .c (.ptr 3 0)), (15, .c (.int .i64)), (16, .c (.int .i64)), (17, .c (.int .i64)), (18, .c (.bool)), (19, .c (.bool))], [(0, .box [.nils, .nils, .nils]), (1, .arr (.int .u8)), (2, .box [.int .i64, .int .i64, .int .i64, .int .i64, .int .i64, .int .i64]), (3, .box [.int .i64, .int .i64, .int .i64, .int .i64, .int .i64, .int .i64])]⟩), (33, ⟨[(0, .c (.int .i64)), (1, .c (.int .i64)), (4, .c (.ptr 0 0)), (5, .c (.own 1)), (21, .c (.own 2)), (22, .c (.int .i64)), (23, .c (.int .i64))], [(0, .box [.nils, .nils, .nils]), (1, .arr (.int .u8)), (2, .arr (.int .i64))]⟩), (41, ⟨[(0, .c (.int .i64)), (1, .c (.int .i64)), (4, .c (.ptr 0 0)), (5, .c (.own 1)), (21, .c (.own 2)), (22, .c (.int .i64)), (24, .c (.bool)), (25, .c (.int .i64))], [(0, .box [.nils, .nils, .nils]), (1, .arr (.int .u8)), (2, .arr (.int .i64))]⟩), (49, ⟨[(0, .c (.int .i64)), (1, .c (.int .i64)), (4, .c (.ptr 0 0)), (5, .c (.own 1)), (21, .c (.own 2)), (24, .c (.bool)), (26, .c (.ptr 3 0)), (27, .c (.own 4)), (28, .c (.int .i64))], [(0, .box [.nils, .nils, .nils]), (1, .arr (.int .u8)), (2, .arr (.int .i64)), (3, .box [.own 1, .own 5, .nils]), (4, .arr .bool), (5, .arr (.prod (.int .i64) (.prod (.int .i64) (.prod (.int .i64) (.prod (.int .i64) (.prod (.int .i64) (.prod (.int .i64) (.prod (.int .i64) (.prod (.int .i64) (.prod (.int .i64) (.prod (.int .i64) (.int .i64))))))))))))]⟩), (59, ⟨[(0, .c (.int .i64)), (1, .c (.int .i64)), (4, .c (.ptr 0 0)), (5, .c (.own 1)), (21, .c (.own 2)), (24, .c (.bool)), (26, .c (.ptr 3 0)), (27, .c (.own 4)), (31, .c (.int .i64))], [(0, .box [.nils, .nils, .nils]), (1, .arr (.int .u8)), (2, .arr (.int .i64)), (3, .box [.own 1, .own 5, .own 6]), (4, .arr .bool), (5, .arr (.prod (.int .i64) (.prod (.int .i64) (.prod (.int .i64) (.prod (.int .i64) (.prod (.int .i64) (.prod (.int .i64) (.prod (.int .i64) (.prod (.int .i64) (.prod (.int .i64) (.prod (.int .i64) (.int .i64)))))))))))), (6, .arr (.prod (.int .i64) (.prod (.int .i64) (.prod (.int .i64) (.int .i64)))))]⟩), (66, ⟨[(0, .c (.int .i64)), (1, .c (.int .i64)), (4, .c (.ptr 0 0)), (24, .c (.bool)), (26, .c (.ptr 1 0)), (33, .c (.int .i64))], [(0, .box [.nils, .nils, .nils]), (1, .box [.own 2, .own 3, .own 4]), (2, .arr (.int .u8)), (3, .arr (.prod (.int .i64) (.prod (.int .i64) (.prod (.int .i64) (.prod (.int .i64) (.prod (.int .i64) (.prod (.int .i64) (.prod (.int .i64) (.prod (.int .i64) (.prod (.int .i64) (.prod (.int .i64) (.int .i64)))))))))))), (4, .arr (.prod (.int .i64) (.prod (.int .i64) (.prod (.int .i64) (.int .i64)))))]⟩)], [], 0, [], fuel⟩
theorem f16.run : ∀ x, runFn (f16.E 100000000000000000000) Go.Proofs.Try.f16 ((Go.Proofs.Try.f16.body).getD .skip) f16.S x = f16.S.f x := by intro x; kernel_rfl
theorem f16.sound : Sound Go.Proofs.Try.prog 16 f16.S := sound_of_run (fun _ => f16.E 100000000000000000000) (by kernel_rfl) (by kernel_rfl) (by kernel_rfl) orders (fun _ => ⟨tis_ok, EqsOk.nil _, (FnsOk.cons f47.sound (FnsOk.cons f48.sound (FnsOk.cons f49.sound (FnsOk.cons f18.sound (FnsOk.cons f50.sound (FnsOk.cons f37.sound FnsOk.nil))))))⟩) (fun _ => rfl) (by kernel_rfl) (by kernel_rfl) (fun x r h => (f16.run x).trans h)
/-! f15: adit/aditlaw4.Same -/
def f15.L1 (x : Int × List Int × List (Int × Int × Int × Int × Int × Int × Int × Int × Int × Int × Int) × List (Int × Int × Int × Int) × List Int × List (Int × Int × Int × Int × Int × Int × Int × Int × Int × Int × Int) × List (Int × Int × Int × Int) × Unit) : Option (Bool × Unit) :=
 it (X := Int × List Int × List (Int × Int × Int × Int × Int × Int × Int × Int × Int × Int × Int) × List (Int × Int × Int × Int) × List Int × List (Int × Int × Int × Int × Int × Int × Int × Int × Int × Int × Int) × List (Int × Int × Int × Int) × Unit) (fun rec x =>
 bif Decidable.decide (x.fst < (↑(List.length x.snd.snd.snd.fst) : Int)) then
  bif inRange x.fst (List.length x.snd.snd.snd.fst) then
   bif inRange x.fst (List.length x.snd.snd.snd.snd.snd.snd.fst) then
    bif !((List.getD x.snd.snd.snd.fst (Int.toNat x.fst) (0, 0, 0, 0)).fst == (List.getD x.snd.snd.snd.snd.snd.snd.fst (Int.toNat x.fst) (0, 0, 0, 0)).fst && ((List.getD x.snd.snd.snd.fst (Int.toNat x.fst) (0, 0, 0, 0)).snd.fst == (List.getD x.snd.snd.snd.snd.snd.snd.fst (Int.toNat x.fst) (0, 0, 0, 0)).snd.fst && ((List.getD x.snd.snd.snd.fst (Int.toNat x.fst) (0, 0, 0, 0)).snd.snd.fst == (List.getD x.snd.snd.snd.snd.snd.snd.fst (Int.toNat x.fst) (0, 0, 0, 0)).snd.snd.fst && ((List.getD x.snd.snd.snd.fst (Int.toNat x.fst) (0, 0, 0, 0)).snd.snd.snd == (List.getD x.snd.snd.snd.snd.snd.snd.fst (Int.toNat x.fst) (0, 0, 0, 0)).snd.snd.snd && Bool.true)))) then
     some ((Bool.false, ()))
    else
     rec (Go.IntKind.wrap Go.IntKind.i64 (x.fst + 1), x.snd.fst, x.snd.snd.fst, x.snd.snd.snd.fst, x.snd.snd.snd.snd.fst, x.snd.snd.snd.snd.snd.fst, x.snd.snd.snd.snd.snd.snd.fst, ())
   else
    none
  else
   none
 else
  some ((Bool.true, ()))
 ) (100000000000000000000) (x)
def f15.L2 (x : Int × List Int × List (Int × Int × Int × Int × Int × Int × Int × Int × Int × Int × Int) × List (Int × Int × Int × Int) × List Int × List (Int × Int × Int × Int × Int × Int × Int × Int × Int × Int × Int) × List (Int × Int × Int × Int) × Unit) : Option (Bool × Unit) :=
 it (X := Int × List Int × List (Int × Int × Int × Int × Int × Int × Int × Int × Int × Int × Int) × List (Int × Int × Int × Int) × List Int × List (Int × Int × Int × Int × Int × Int × Int × Int × Int × Int × Int) × List (Int × Int × Int × Int) × Unit) (fun rec x =>
 bif Decidable.decide (x.fst < (↑(List.length x.snd.snd.fst) : Int)) then
  bif inRange x.fst (List.length x.snd.snd.fst) then
   bif inRange x.fst (List.length x.snd.snd.snd.snd.snd.fst) then
    bif !((List.getD x.snd.snd.fst (Int.toNat x.fst) (0, 0, 0, 0, 0, 0, 0, 0, 0, 0, 0)).fst == (List.getD x.snd.snd.snd.snd.snd.fst (Int.toNat x.fst) (0, 0, 0, 0, 0, 0, 0, 0, 0, 0, 0)).fst && ((List.getD x.snd.snd.fst (Int.toNat x.fst) (0, 0, 0, 0, 0, 0, 0, 0, 0, 0, 0)).snd.fst == (List.getD x.snd.snd.snd.snd.snd.fst (Int.toNat x.fst) (0, 0, 0, 0, 0, 0, 0, 0, 0, 0, 0)).snd.fst && ((List.getD x.snd.snd.fst (Int.toNat x.fst) (0, 0, 0, 0, 0, 0, 0, 0, 0, 0, 0)).snd.snd.fst == (List.getD x.snd.snd.snd.snd.snd.fst (Int.toNat x.fst) (0, 0, 0, 0, 0, 0, 0, 0, 0, 0, 0)).snd.snd.fst && ((List.getD x.snd.snd.fst (Int.toNat x.fst) (0, 0, 0, 0, 0, 0, 0, 0, 0, 0, 0)).snd.snd.snd.fst == (List.getD x.snd.snd.snd.snd.snd.fst (Int.toNat x.fst) (0, 0, 0, 0, 0, 0, 0, 0, 0, 0, 0)).snd.snd.snd.fst && ((List.getD x.snd.snd.fst (Int.toNat x.fst) (0, 0, 0, 0, 0, 0, 0, 0, 0, 0, 0)).snd.snd.snd.snd.fst == (List.getD x.snd.snd.snd.snd.snd.fst (Int.toNat x.fst) (0, 0, 0, 0, 0, 0, 0, 0, 0, 0, 0)).snd.snd.snd.snd.fst && ((List.getD x.snd.snd.fst (Int.toNat x.fst) (0, 0, 0, 0, 0, 0, 0, 0, 0, 0, 0)).snd.snd.snd.snd.snd.fst == (List.getD x.snd.snd.snd.snd.snd.fst (Int.toNat x.fst) (0, 0, 0, 0, 0, 0, 0, 0, 0, 0, 0)).snd.snd.snd.snd.snd.fst && ((List.getD x.snd.snd.fst (Int.toNat x.fst) (0, 0, 0, 0, 0, 0, 0, 0, 0, 0, 0)).snd.snd.snd.snd.snd.snd.fst == (List.getD x.snd.snd.snd.snd.snd.fst (Int.toNat x.fst) (0, 0, 0, 0, 0, 0, 0, 0, 0, 0, 0)).snd.snd.snd.snd.snd.snd.fst && ((List.getD x.snd.snd.fst (Int.toNat x.fst) (0, 0, 0, 0, 0, 0, 0, 0, 0, 0, 0)).snd.snd.snd.snd.snd.snd.snd.fst == (List.getD x.snd.snd.snd.snd.snd.fst (Int.toNat x.fst) (0, 0, 0, 0, 0, 0, 0, 0, 0, 0, 0)).snd.snd.snd.snd.snd.snd.snd.fst && ((List.getD x.snd.snd.fst (Int.toNat x.fst) (0, 0, 0, 0, 0, 0, 0, 0, 0, 0, 0)).snd.snd.snd.snd.snd.snd.snd.snd.fst == (List.getD x.snd.snd.snd.snd.snd.fst (Int.toNat x.fst) (0, 0, 0, 0, 0, 0, 0, 0, 0, 0, 0)).snd.snd.snd.snd.snd.snd.snd.snd.fst && ((List.getD x.snd.snd.fst (Int.toNat x.fst) (0, 0, 0, 0, 0, 0, 0, 0, 0, 0, 0)).snd.snd.snd.snd.snd.snd.snd.snd.snd.fst == (List.getD x.snd.snd.snd.snd.snd.fst (Int.toNat x.fst) (0, 0, 0, 0, 0, 0, 0, 0, 0, 0, 0)).snd.snd.snd.snd.snd.snd.snd.snd.snd.fst && ((List.getD x.snd.snd.fst (Int.toNat x.fst) (0, 0, 0, 0, 0, 0, 0, 0, 0, 0, 0)).snd.snd.snd.snd.snd.snd.snd.snd.snd.snd == (List.getD x.snd.snd.snd.snd.snd.fst (Int.toNat x.fst) (0, 0, 0, 0, 0, 0, 0, 0, 0, 0, 0)).snd.snd.snd.snd.snd.snd.snd.snd.snd.snd && Bool.true))))))))))) then
     some ((Bool.false, ()))
    else
     rec (Go.IntKind.wrap Go.IntKind.i64 (x.fst + 1), x.snd.fst, x.snd.snd.fst, x.snd.snd.snd.fst, x.snd.snd.snd.snd.fst, x.snd.snd.snd.snd.snd.fst, x.snd.snd.snd.snd.snd.snd.fst, ())
   else
    none
  else
   none
 else
  f15.L1 ((0, x.snd.fst, x.snd.snd.fst, x.snd.snd.snd.fst, x.snd.snd.snd.snd.fst, x.snd.snd.snd.snd.snd.fst, x.snd.snd.snd.snd.snd.snd.fst, ()))
 ) (100000000000000000000) (x)
def f15 (a0 : List Int) (a1 : List (Int × Int × Int × Int × Int × Int × Int × Int × Int × Int × Int)) (a2 : List (Int × Int × Int × Int)) (a3 : List Int) (a4 : List (Int × Int × Int × Int × Int × Int × Int × Int × Int × Int × Int)) (a5 : List (Int × Int × Int × Int)) : Option (Bool × Unit) :=
 bif !ByteArray.toList (bytesOf a0) == ByteArray.toList (bytesOf a3) then
  some ((Bool.false, ()))
 else
  bif (↑(List.length a1) : Int) != (↑(List.length a4) : Int) then
   some ((Bool.false, ()))
  else
   bif (↑(List.length a2) : Int) != (↑(List.length a5) : Int) then
    some ((Bool.false, ()))
   else
    f15.L2 ((0, a0, a1, a2, a3, a4, a5, ()))
def f15.ins : Shape := ⟨[(0, .agg [.row (.int .u8), .row (.prod (.int .i64) (.prod (.int .i64) (.prod (.int .i64) (.prod (.int .i64) (.prod (.int .i64) (.prod (.int .i64) (.prod (.int .i64) (.prod (.int .i64) (.prod (.int .i64) (.prod (.int .i64) (.int .i64))))))))))), .row (.prod (.int .i64) (.prod (.int .i64) (.prod (.int .i64) (.int .i64))))]), (1, .agg [.row (.int .u8), .row (.prod (.int .i64) (.prod (.int .i64) (.prod (.int .i64) (.prod (.int .i64) (.prod (.int .i64) (.prod (.int .i64) (.prod (.int .i64) (.prod (.int .i64) (.prod (.int .i64) (.prod (.int .i64) (.int .i64))))))))))), .row (.prod (.int .i64) (.prod (.int .i64) (.prod (.int .i64) (.int .i64))))])], []⟩
def f15.outs : List Shape := [⟨[(0, .c (.bool))], []⟩]
def f15.S : FnSpec := ⟨f15.ins, f15.outs, [], fun x => f15 x.1 x.2.1 x.2.2.1 x.2.2.2.1 x.2.2.2.2.1 x.2.2.2.2.2.1⟩
def f15.E (fuel : Nat) : Env := ⟨tis, [], [(42, [.int .i64, .int .i64, .int .i64, .int .i64, .int .i64, .int .i64, .int .i64, .int .i64, .int .i64, .int .i64, .int .i64]), (45, [.int .i64, .int .i64, .int .i64, .int .i64])], [], [(5, ⟨[(2, .c (.ptr 0 0)), (3, .c (.ptr 1 0)), (5, .c (.int .i64))], [(0, .box [.row (.int .u8), .row (.prod (.int .i64) (.prod (.int .i64) (.prod (.int .i64) (.prod (.int .i64) (.prod (.int .i64) (.prod (.int .i64) (.prod (.int .i64) (.prod (.int .i64) (.prod (.int .i64) (.prod (.int .i64) (.int .i64))))))))))), .row (.prod (.int .i64) (.prod (.int .i64) (.prod (.int .i64) (.int .i64))))]), (1, .box [.row (.int .u8), .row (.prod (.int .i64) (.prod (.int .i64) (.prod (.int .i64) (.prod (.int .i64) (.prod (.int .i64) (.prod (.int .i64) (.prod (.int .i64) (.prod (.int .i64) (.prod (.int .i64) (.prod (.int .i64) (.int .i64))))))))))), .row (.prod (.int .i64) (.prod (.int .i64) (.prod (.int .i64) (.int .i64))))])]⟩), (10, ⟨[(2, .c (.ptr 0 0)), (3, .c (.ptr 1 0)), (6, .c (.int .i64))], [(0, .box [.row (.int .u8), .row (.prod (.int .i64) (.prod (.int .i64) (.prod (.int .i64) (.prod (.int .i64) (.prod (.int .i64) (.prod (.int .i64) (.prod (.int .i64) (.prod (.int .i64) (.prod (.int .i64) (.prod (.int .i64) (.int .i64))))))))))), .row (.prod (.int .i64) (.prod (.int .i64) (.prod (.int .i64) (.int .i64))))]), (1, .box [.row (.int .u8), .row (.prod (.int .i64) (.prod (.int .i64) (.prod (.int .i64) (.prod (.int .i64) (.prod (.int .i64) (.prod (.int .i64) (.prod (.int .i64) (.prod (.int .i64) (.prod (.int .i64) (.prod (.int .i64) (.int .i64))))))))))), .row (.prod (.int .i64) (.prod (.int .i64) (.prod (.int .i64) (.int .i64))))])]⟩)], [], 0, [], fuel⟩
theorem f15.run : ∀ x, runFn (f15.E 100000000000000000000) Go.Proofs.Try.f15 ((Go.Proofs.Try.f15.body).getD .skip) f15.S x = f15.S.f x := by intro x; kernel_rfl
theorem f15.sound : Sound Go.Proofs.Try.prog 15 f15.S := sound_of_run (fun _ => f15.E 100000000000000000000) (by kernel_rfl) (by kernel_rfl) (by kernel_rfl) orders (fun _ => ⟨tis_ok, (EqsOk.cons eq42 (EqsOk.cons eq45 (EqsOk.nil _))), FnsOk.nil⟩) (fun _ => rfl) (by kernel_rfl) (by kernel_rfl) (fun x r h => (f15.run x).trans h)
/-! f3: adit/aditlaw4.GenFloors -/
def f3 (a0 : Int) (a1 : Int) : Option (Bool × Unit) :=
 Option.bind (f13) fun y0 =>
  bif !y0.fst then
   some ((Bool.false, ()))
  else
   Option.bind (f14 a0 a1) fun y1 =>
    bif Decidable.decide (a1 < 1) then
     bif y1.fst == 1 then
      some ((Go.IntKind.wrap Go.IntKind.i64 (Go.IntKind.wrap Go.IntKind.i64 ((↑(List.length y1.snd.fst) : Int) + (↑(List.length y1.snd.snd.fst) : Int)) + (↑(List.length y1.snd.snd.snd.fst) : Int)) == 0, ()))
     else
      some ((Bool.false, ()))
    else
     bif Decidable.decide (a1 > 3) then
      bif y1.fst == 1 then
       some ((Go.IntKind.wrap Go.IntKind.i64 (Go.IntKind.wrap Go.IntKind.i64 ((↑(List.length y1.snd.fst) : Int) + (↑(List.length y1.snd.snd.fst) : Int)) + (↑(List.length y1.snd.snd.snd.fst) : Int)) == 0, ()))
      else
       some ((Bool.false, ()))
     else
      bif y1.fst == 0 then
       Option.bind (f16 a0 a1) fun y2 =>
        Option.bind (f15 y1.snd.fst y1.snd.snd.fst y1.snd.snd.snd.fst y2.fst y2.snd.fst y2.snd.snd.fst) fun y3 =>
         some ((y3.fst, ()))
      else
       some ((Bool.false, ()))
def f3.ins : Shape := ⟨[(0, .c (.int .i64)), (1, .c (.int .i64))], []⟩
def f3.outs : List Shape := [⟨[(0, .c (.bool))], []⟩]
def f3.S : FnSpec := ⟨f3.ins, f3.outs, [], fun x => f3 x.1 x.2.1⟩
def f3.E (fuel : Nat) : Env := ⟨tis, [(14, f14.S), (13, f13.S), (16, f16.S), (15, f15.S)], [], [], [], [], 0, [], fuel⟩
theorem f3.run : ∀ x, runFn (f3.E 100000000000000000000) Go.Proofs.Try.f3 ((Go.Proofs.Try.f3.body).getD .skip) f3.S x = f3.S.f x := by intro x; kernel_rfl
theorem f3.sound : Sound Go.Proofs.Try.prog 3 f3.S := sound_of_run (fun _ => f3.E 100000000000000000000) (by kernel_rfl) (by kernel_rfl) (by kernel_rfl) orders (fun _ => ⟨tis_ok, EqsOk.nil _, (FnsOk.cons f14.sound (FnsOk.cons f13.sound (FnsOk.cons f16.sound (FnsOk.cons f15.sound FnsOk.nil))))⟩) (fun _ => rfl) (by kernel_rfl) (by kernel_rfl) (fun x r h => (f3.run x).trans h)
/-! f17: adit/aditlaw4.within -/
def f17 (a0 : Int) (a1 : Int) : Option (Int × Unit) :=
 bif Decidable.decide (a1 = 0) then
  none
 else
  Option.bind (α := Int × Unit ⊕ Int × Unit) (
   bif Decidable.decide (Int.tmod a0 a1 < 0) then
    some (Sum.inl (Go.IntKind.wrap Go.IntKind.i64 (Int.tmod a0 a1 + a1), ()))
   else
    some (Sum.inl (Int.tmod a0 a1, ()))
  ) fun y0 =>
   Sum.elim (fun y1 =>
    some ((y1.fst, ()))
   ) (fun z2 =>
    some (z2)
   ) (y0)
def f17.ins : Shape := ⟨[(0, .c (.int .i64)), (1, .c (.int .i64))], []⟩
def f17.outs : List Shape := [⟨[(0, .c (.int .i64))], []⟩]
def f17.S : FnSpec := ⟨f17.ins, f17.outs, [], fun x => f17 x.1 x.2.1⟩
def f17.E (fuel : Nat) : Env := ⟨tis, [], [], [(5, ⟨[(5, .c (.int .i64))], []⟩)], [], [], 0, [], fuel⟩
theorem f17.run : ∀ x, runFn (f17.E 100000000000000000000) Go.Proofs.Try.f17 ((Go.Proofs.Try.f17.body).getD .skip) f17.S x = f17.S.f x := by intro x; kernel_rfl
theorem f17.sound : Sound Go.Proofs.Try.prog 17 f17.S := sound_of_run (fun _ => f17.E 100000000000000000000) (by kernel_rfl) (by kernel_rfl) (by kernel_rfl) orders (fun _ => ⟨tis_ok, EqsOk.nil _, FnsOk.nil⟩) (fun _ => rfl) (by kernel_rfl) (by kernel_rfl) (fun x r h => (f17.run x).trans h)
/-! f4: adit/aditlaw4.GenReaches -/
def f4.L1 (x : Int × List Int × Int × Int × Int × Int × Int × Int × List Int × List (Int × Int × Int × Int × Int × Int × Int × Int × Int × Int × Int) × List (Int × Int × Int × Int) × Unit) : Option (Bool × Unit) :=
 it (X := Int × List Int × Int × Int × Int × Int × Int × Int × List Int × List (Int × Int × Int × Int × Int × Int × Int × Int × Int × Int × Int) × List (Int × Int × Int × Int) × Unit) (fun rec x =>
 bif Decidable.decide (x.fst < 384) then
  bif inRange x.fst (List.length x.snd.snd.snd.snd.snd.snd.snd.snd.fst) then
   bif Decidable.decide (List.getD x.snd.snd.snd.snd.snd.snd.snd.snd.fst (Int.toNat x.fst) 0 > 5) then
    some ((Bool.false, ()))
   else
    bif inRange x.fst (List.length x.snd.snd.snd.snd.snd.snd.snd.snd.fst) then
     Option.bind (f20 (Go.IntKind.wrap Go.IntKind.i64 (List.getD x.snd.snd.snd.snd.snd.snd.snd.snd.fst (Int.toNat x.fst) 0))) fun y0 =>
      bif inRange x.fst (List.length x.snd.fst) then
       bif !y0.fst == Decidable.decide (List.getD x.snd.fst (Int.toNat x.fst) 0 ≥ 0) then
        some ((Bool.false, ()))
       else
        bif inRange x.fst (List.length x.snd.snd.snd.snd.snd.snd.snd.snd.fst) then
         bif inRange (List.getD x.snd.snd.snd.snd.snd.snd.snd.snd.fst (Int.toNat x.fst) 0) 6 then
          bif inRange (List.getD x.snd.snd.snd.snd.snd.snd.snd.snd.fst (Int.toNat x.fst) 0) 6 then
           bif Int.tmod x.fst 24 == 0 then
            bif inRange x.fst (List.length x.snd.snd.snd.snd.snd.snd.snd.snd.fst) then
             bif List.getD x.snd.snd.snd.snd.snd.snd.snd.snd.fst (Int.toNat x.fst) 0 != 0 then
              some ((Bool.false, ()))
             else
              rec (Go.IntKind.wrap Go.IntKind.i64 (x.fst + 1), x.snd.fst, if Int.toNat (List.getD x.snd.snd.snd.snd.snd.snd.snd.snd.fst (Int.toNat x.fst) 0) = 0 / 1 then Go.IntKind.wrap Go.IntKind.i64 (List.getD [x.snd.snd.fst, x.snd.snd.snd.fst, x.snd.snd.snd.snd.fst, x.snd.snd.snd.snd.snd.fst, x.snd.snd.snd.snd.snd.snd.fst, x.snd.snd.snd.snd.snd.snd.snd.fst] (Int.toNat (List.getD x.snd.snd.snd.snd.snd.snd.snd.snd.fst (Int.toNat x.fst) 0)) 0 + 1) else x.snd.snd.fst, if Int.toNat (List.getD x.snd.snd.snd.snd.snd.snd.snd.snd.fst (Int.toNat x.fst) 0) = (0 + 1) / 1 then Go.IntKind.wrap Go.IntKind.i64 (List.getD [x.snd.snd.fst, x.snd.snd.snd.fst, x.snd.snd.snd.snd.fst, x.snd.snd.snd.snd.snd.fst, x.snd.snd.snd.snd.snd.snd.fst, x.snd.snd.snd.snd.snd.snd.snd.fst] (Int.toNat (List.getD x.snd.snd.snd.snd.snd.snd.snd.snd.fst (Int.toNat x.fst) 0)) 0 + 1) else x.snd.snd.snd.fst, if Int.toNat (List.getD x.snd.snd.snd.snd.snd.snd.snd.snd.fst (Int.toNat x.fst) 0) = (0 + 1 + 1) / 1 then Go.IntKind.wrap Go.IntKind.i64 (List.getD [x.snd.snd.fst, x.snd.snd.snd.fst, x.snd.snd.snd.snd.fst, x.snd.snd.snd.snd.snd.fst, x.snd.snd.snd.snd.snd.snd.fst, x.snd.snd.snd.snd.snd.snd.snd.fst] (Int.toNat (List.getD x.snd.snd.snd.snd.snd.snd.snd.snd.fst (Int.toNat x.fst) 0)) 0 + 1) else x.snd.snd.snd.snd.fst, if Int.toNat (List.getD x.snd.snd.snd.snd.snd.snd.snd.snd.fst (Int.toNat x.fst) 0) = (0 + 1 + 1 + 1) / 1 then Go.IntKind.wrap Go.IntKind.i64 (List.getD [x.snd.snd.fst, x.snd.snd.snd.fst, x.snd.snd.snd.snd.fst, x.snd.snd.snd.snd.snd.fst, x.snd.snd.snd.snd.snd.snd.fst, x.snd.snd.snd.snd.snd.snd.snd.fst] (Int.toNat (List.getD x.snd.snd.snd.snd.snd.snd.snd.snd.fst (Int.toNat x.fst) 0)) 0 + 1) else x.snd.snd.snd.snd.snd.fst, if Int.toNat (List.getD x.snd.snd.snd.snd.snd.snd.snd.snd.fst (Int.toNat x.fst) 0) = (0 + 1 + 1 + 1 + 1) / 1 then Go.IntKind.wrap Go.IntKind.i64 (List.getD [x.snd.snd.fst, x.snd.snd.snd.fst, x.snd.snd.snd.snd.fst, x.snd.snd.snd.snd.snd.fst, x.snd.snd.snd.snd.snd.snd.fst, x.snd.snd.snd.snd.snd.snd.snd.fst] (Int.toNat (List.getD x.snd.snd.snd.snd.snd.snd.snd.snd.fst (Int.toNat x.fst) 0)) 0 + 1) else x.snd.snd.snd.snd.snd.snd.fst, if Int.toNat (List.getD x.snd.snd.snd.snd.snd.snd.snd.snd.fst (Int.toNat x.fst) 0) = (0 + 1 + 1 + 1 + 1 + 1) / 1 then Go.IntKind.wrap Go.IntKind.i64 (List.getD [x.snd.snd.fst, x.snd.snd.snd.fst, x.snd.snd.snd.snd.fst, x.snd.snd.snd.snd.snd.fst, x.snd.snd.snd.snd.snd.snd.fst, x.snd.snd.snd.snd.snd.snd.snd.fst] (Int.toNat (List.getD x.snd.snd.snd.snd.snd.snd.snd.snd.fst (Int.toNat x.fst) 0)) 0 + 1) else x.snd.snd.snd.snd.snd.snd.snd.fst, x.snd.snd.snd.snd.snd.snd.snd.snd.fst, x.snd.snd.snd.snd.snd.snd.snd.snd.snd.fst, x.snd.snd.snd.snd.snd.snd.snd.snd.snd.snd.fst, ())
            else
             none
           else
            bif Go.IntKind.wrap Go.IntKind.i64 (Int.tdiv x.fst 24) == 0 then
             bif inRange x.fst (List.length x.snd.snd.snd.snd.snd.snd.snd.snd.fst) then
              bif List.getD x.snd.snd.snd.snd.snd.snd.snd.snd.fst (Int.toNat x.fst) 0 != 0 then
               some ((Bool.false, ()))
              else
               rec (Go.IntKind.wrap Go.IntKind.i64 (x.fst + 1), x.snd.fst, if Int.toNat (List.getD x.snd.snd.snd.snd.snd.snd.snd.snd.fst (Int.toNat x.fst) 0) = 0 / 1 then Go.IntKind.wrap Go.IntKind.i64 (List.getD [x.snd.snd.fst, x.snd.snd.snd.fst, x.snd.snd.snd.snd.fst, x.snd.snd.snd.snd.snd.fst, x.snd.snd.snd.snd.snd.snd.fst, x.snd.snd.snd.snd.snd.snd.snd.fst] (Int.toNat (List.getD x.snd.snd.snd.snd.snd.snd.snd.snd.fst (Int.toNat x.fst) 0)) 0 + 1) else x.snd.snd.fst, if Int.toNat (List.getD x.snd.snd.snd.snd.snd.snd.snd.snd.fst (Int.toNat x.fst) 0) = (0 + 1) / 1 then Go.IntKind.wrap Go.IntKind.i64 (List.getD [x.snd.snd.fst, x.snd.snd.snd.fst, x.snd.snd.snd.snd.fst, x.snd.snd.snd.snd.snd.fst, x.snd.snd.snd.snd.snd.snd.fst, x.snd.snd.snd.snd.snd.snd.snd.fst] (Int.toNat (List.getD x.snd.snd.snd.snd.snd.snd.snd.snd.fst (Int.toNat x.fst) 0)) 0 + 1) else x.snd.snd.snd.fst, if Int.toNat (List.getD x.snd.snd.snd.snd.snd.snd.snd.snd.fst (Int.toNat x.fst) 0) = (0 + 1 + 1) / 1 then Go.IntKind.wrap Go.IntKind.i64 (List.getD [x.snd.snd.fst, x.snd.snd.snd.fst, x.snd.snd.snd.snd.fst, x.snd.snd.snd.snd.snd.fst, x.snd.snd.snd.snd.snd.snd.fst, x.snd.snd.snd.snd.snd.snd.snd.fst] (Int.toNat (List.getD x.snd.snd.snd.snd.snd.snd.snd.snd.fst (Int.toNat x.fst) 0)) 0 + 1) else x.snd.snd.snd.snd.fst, if Int.toNat (List.getD x.snd.snd.snd.snd.snd.snd.snd.snd.fst (Int.toNat x.fst) 0) = (0 + 1 + 1 + 1) / 1 then Go.IntKind.wrap Go.IntKind.i64 (List.getD [x.snd.snd.fst, x.snd.snd.snd.fst, x.snd.snd.snd.snd.fst, x.snd.snd.snd.snd.snd.fst, x.snd.snd.snd.snd.snd.snd.fst, x.snd.snd.snd.snd.snd.snd.snd.fst] (Int.toNat (List.getD x.snd.snd.snd.snd.snd.snd.snd.snd.fst (Int.toNat x.fst) 0)) 0 + 1) else x.snd.snd.snd.snd.snd.fst, if Int.toNat (List.getD x.snd.snd.snd.snd.snd.snd.snd.snd.fst (Int.toNat x.fst) 0) = (0 + 1 + 1 + 1 + 1) / 1 then Go.IntKind.wrap Go.IntKind.i64 (List.getD [x.snd.snd.fst, x.snd.snd.snd.fst, x.snd.snd.snd.snd.fst, x.snd.snd.snd.snd.snd.fst, x.snd.snd.snd.snd.snd.snd.fst, x.snd.snd.snd.snd.snd.snd.snd.fst] (Int.toNat (List.getD x.snd.snd.snd.snd.snd.snd.snd.snd.fst (Int.toNat x.fst) 0)) 0 + 1) else x.snd.snd.snd.snd.snd.snd.fst, if Int.toNat (List.getD x.snd.snd.snd.snd.snd.snd.snd.snd.fst (Int.toNat x.fst) 0) = (0 + 1 + 1 + 1 + 1 + 1) / 1 then Go.IntKind.wrap Go.IntKind.i64 (List.getD [x.snd.snd.fst, x.snd.snd.snd.fst, x.snd.snd.snd.snd.fst, x.snd.snd.snd.snd.snd.fst, x.snd.snd.snd.snd.snd.snd.fst, x.snd.snd.snd.snd.snd.snd.snd.fst] (Int.toNat (List.getD x.snd.snd.snd.snd.snd.snd.snd.snd.fst (Int.toNat x.fst) 0)) 0 + 1) else x.snd.snd.snd.snd.snd.snd.snd.fst, x.snd.snd.snd.snd.snd.snd.snd.snd.fst, x.snd.snd.snd.snd.snd.snd.snd.snd.snd.fst, x.snd.snd.snd.snd.snd.snd.snd.snd.snd.snd.fst, ())
             else
              none
            else
             bif Int.tmod x.fst 24 == 23 then
              bif inRange x.fst (List.length x.snd.snd.snd.snd.snd.snd.snd.snd.fst) then
               bif List.getD x.snd.snd.snd.snd.snd.snd.snd.snd.fst (Int.toNat x.fst) 0 != 0 then
                some ((Bool.false, ()))
               else
                rec (Go.IntKind.wrap Go.IntKind.i64 (x.fst + 1), x.snd.fst, if Int.toNat (List.getD x.snd.snd.snd.snd.snd.snd.snd.snd.fst (Int.toNat x.fst) 0) = 0 / 1 then Go.IntKind.wrap Go.IntKind.i64 (List.getD [x.snd.snd.fst, x.snd.snd.snd.fst, x.snd.snd.snd.snd.fst, x.snd.snd.snd.snd.snd.fst, x.snd.snd.snd.snd.snd.snd.fst, x.snd.snd.snd.snd.snd.snd.snd.fst] (Int.toNat (List.getD x.snd.snd.snd.snd.snd.snd.snd.snd.fst (Int.toNat x.fst) 0)) 0 + 1) else x.snd.snd.fst, if Int.toNat (List.getD x.snd.snd.snd.snd.snd.snd.snd.snd.fst (Int.toNat x.fst) 0) = (0 + 1) / 1 then Go.IntKind.wrap Go.IntKind.i64 (List.getD [x.snd.snd.fst, x.snd.snd.snd.fst, x.snd.snd.snd.snd.fst, x.snd.snd.snd.snd.snd.fst, x.snd.snd.snd.snd.snd.snd.fst, x.snd.snd.snd.snd.snd.snd.snd.fst] (Int.toNat (List.getD x.snd.snd.snd.snd.snd.snd.snd.snd.fst (Int.toNat x.fst) 0)) 0 + 1) else x.snd.snd.snd.fst, if Int.toNat (List.getD x.snd.snd.snd.snd.snd.snd.snd.snd.fst (Int.toNat x.fst) 0) = (0 + 1 + 1) / 1 then Go.IntKind.wrap Go.IntKind.i64 (List.getD [x.snd.snd.fst, x.snd.snd.snd.fst, x.snd.snd.snd.snd.fst, x.snd.snd.snd.snd.snd.fst, x.snd.snd.snd.snd.snd.snd.fst, x.snd.snd.snd.snd.snd.snd.snd.fst] (Int.toNat (List.getD x.snd.snd.snd.snd.snd.snd.snd.snd.fst (Int.toNat x.fst) 0)) 0 + 1) else x.snd.snd.snd.snd.fst, if Int.toNat (List.getD x.snd.snd.snd.snd.snd.snd.snd.snd.fst (Int.toNat x.fst) 0) = (0 + 1 + 1 + 1) / 1 then Go.IntKind.wrap Go.IntKind.i64 (List.getD [x.snd.snd.fst, x.snd.snd.snd.fst, x.snd.snd.snd.snd.fst, x.snd.snd.snd.snd.snd.fst, x.snd.snd.snd.snd.snd.snd.fst, x.snd.snd.snd.snd.snd.snd.snd.fst] (Int.toNat (List.getD x.snd.snd.snd.snd.snd.snd.snd.snd.fst (Int.toNat x.fst) 0)) 0 + 1) else x.snd.snd.snd.snd.snd.fst, if Int.toNat (List.getD x.snd.snd.snd.snd.snd.snd.snd.snd.fst (Int.toNat x.fst) 0) = (0 + 1 + 1 + 1 + 1) / 1 then Go.IntKind.wrap Go.IntKind.i64 (List.getD [x.snd.snd.fst, x.snd.snd.snd.fst, x.snd.snd.snd.snd.fst, x.snd.snd.snd.snd.snd.fst, x.snd.snd.snd.snd.snd.snd.fst, x.snd.snd.snd.snd.snd.snd.snd.fst] (Int.toNat (List.getD x.snd.snd.snd.snd.snd.snd.snd.snd.fst (Int.toNat x.fst) 0)) 0 + 1) else x.snd.snd.snd.snd.snd.snd.fst, if Int.toNat (List.getD x.snd.snd.snd.snd.snd.snd.snd.snd.fst (Int.toNat x.fst) 0) = (0 + 1 + 1 + 1 + 1 + 1) / 1 then Go.IntKind.wrap Go.IntKind.i64 (List.getD [x.snd.snd.fst, x.snd.snd.snd.fst, x.snd.snd.snd.snd.fst, x.snd.snd.snd.snd.snd.fst, x.snd.snd.snd.snd.snd.snd.fst, x.snd.snd.snd.snd.snd.snd.snd.fst] (Int.toNat (List.getD x.snd.snd.snd.snd.snd.snd.snd.snd.fst (Int.toNat x.fst) 0)) 0 + 1) else x.snd.snd.snd.snd.snd.snd.snd.fst, x.snd.snd.snd.snd.snd.snd.snd.snd.fst, x.snd.snd.snd.snd.snd.snd.snd.snd.snd.fst, x.snd.snd.snd.snd.snd.snd.snd.snd.snd.snd.fst, ())
              else
               none
             else
              bif Go.IntKind.wrap Go.IntKind.i64 (Int.tdiv x.fst 24) == 15 then
               bif inRange x.fst (List.length x.snd.snd.snd.snd.snd.snd.snd.snd.fst) then
                bif List.getD x.snd.snd.snd.snd.snd.snd.snd.snd.fst (Int.toNat x.fst) 0 != 0 then
                 some ((Bool.false, ()))
                else
                 rec (Go.IntKind.wrap Go.IntKind.i64 (x.fst + 1), x.snd.fst, if Int.toNat (List.getD x.snd.snd.snd.snd.snd.snd.snd.snd.fst (Int.toNat x.fst) 0) = 0 / 1 then Go.IntKind.wrap Go.IntKind.i64 (List.getD [x.snd.snd.fst, x.snd.snd.snd.fst, x.snd.snd.snd.snd.fst, x.snd.snd.snd.snd.snd.fst, x.snd.snd.snd.snd.snd.snd.fst, x.snd.snd.snd.snd.snd.snd.snd.fst] (Int.toNat (List.getD x.snd.snd.snd.snd.snd.snd.snd.snd.fst (Int.toNat x.fst) 0)) 0 + 1) else x.snd.snd.fst, if Int.toNat (List.getD x.snd.snd.snd.snd.snd.snd.snd.snd.fst (Int.toNat x.fst) 0) = (0 + 1) / 1 then Go.IntKind.wrap Go.IntKind.i64 (List.getD [x.snd.snd.fst, x.snd.snd.snd.fst, x.snd.snd.snd.snd.fst, x.snd.snd.snd.snd.snd.fst, x.snd.snd.snd.snd.snd.snd.fst, x.snd.snd.snd.snd.snd.snd.snd.fst] (Int.toNat (List.getD x.snd.snd.snd.snd.snd.snd.snd.snd.fst (Int.toNat x.fst) 0)) 0 + 1) else x.snd.snd.snd.fst, if Int.toNat (List.getD x.snd.snd.snd.snd.snd.snd.snd.snd.fst (Int.toNat x.fst) 0) = (0 + 1 + 1) / 1 then Go.IntKind.wrap Go.IntKind.i64 (List.getD [x.snd.snd.fst, x.snd.snd.snd.fst, x.snd.snd.snd.snd.fst, x.snd.snd.snd.snd.snd.fst, x.snd.snd.snd.snd.snd.snd.fst, x.snd.snd.snd.snd.snd.snd.snd.fst] (Int.toNat (List.getD x.snd.snd.snd.snd.snd.snd.snd.snd.fst (Int.toNat x.fst) 0)) 0 + 1) else x.snd.snd.snd.snd.fst, if Int.toNat (List.getD x.snd.snd.snd.snd.snd.snd.snd.snd.fst (Int.toNat x.fst) 0) = (0 + 1 + 1 + 1) / 1 then Go.IntKind.wrap Go.IntKind.i64 (List.getD [x.snd.snd.fst, x.snd.snd.snd.fst, x.snd.snd.snd.snd.fst, x.snd.snd.snd.snd.snd.fst, x.snd.snd.snd.snd.snd.snd.fst, x.snd.snd.snd.snd.snd.snd.snd.fst] (Int.toNat (List.getD x.snd.snd.snd.snd.snd.snd.snd.snd.fst (Int.toNat x.fst) 0)) 0 + 1) else x.snd.snd.snd.snd.snd.fst, if Int.toNat (List.getD x.snd.snd.snd.snd.snd.snd.snd.snd.fst (Int.toNat x.fst) 0) = (0 + 1 + 1 + 1 + 1) / 1 then Go.IntKind.wrap Go.IntKind.i64 (List.getD [x.snd.snd.fst, x.snd.snd.snd.fst, x.snd.snd.snd.snd.fst, x.snd.snd.snd.snd.snd.fst, x.snd.snd.snd.snd.snd.snd.fst, x.snd.snd.snd.snd.snd.snd.snd.fst] (Int.toNat (List.getD x.snd.snd.snd.snd.snd.snd.snd.snd.fst (Int.toNat x.fst) 0)) 0 + 1) else x.snd.snd.snd.snd.snd.snd.fst, if Int.toNat (List.getD x.snd.snd.snd.snd.snd.snd.snd.snd.fst (Int.toNat x.fst) 0) = (0 + 1 + 1 + 1 + 1 + 1) / 1 then Go.IntKind.wrap Go.IntKind.i64 (List.getD [x.snd.snd.fst, x.snd.snd.snd.fst, x.snd.snd.snd.snd.fst, x.snd.snd.snd.snd.snd.fst, x.snd.snd.snd.snd.snd.snd.fst, x.snd.snd.snd.snd.snd.snd.snd.fst] (Int.toNat (List.getD x.snd.snd.snd.snd.snd.snd.snd.snd.fst (Int.toNat x.fst) 0)) 0 + 1) else x.snd.snd.snd.snd.snd.snd.snd.fst, x.snd.snd.snd.snd.snd.snd.snd.snd.fst, x.snd.snd.snd.snd.snd.snd.snd.snd.snd.fst, x.snd.snd.snd.snd.snd.snd.snd.snd.snd.snd.fst, ())
               else
                none
              else
               rec (Go.IntKind.wrap Go.IntKind.i64 (x.fst + 1), x.snd.fst, if Int.toNat (List.getD x.snd.snd.snd.snd.snd.snd.snd.snd.fst (Int.toNat x.fst) 0) = 0 / 1 then Go.IntKind.wrap Go.IntKind.i64 (List.getD [x.snd.snd.fst, x.snd.snd.snd.fst, x.snd.snd.snd.snd.fst, x.snd.snd.snd.snd.snd.fst, x.snd.snd.snd.snd.snd.snd.fst, x.snd.snd.snd.snd.snd.snd.snd.fst] (Int.toNat (List.getD x.snd.snd.snd.snd.snd.snd.snd.snd.fst (Int.toNat x.fst) 0)) 0 + 1) else x.snd.snd.fst, if Int.toNat (List.getD x.snd.snd.snd.snd.snd.snd.snd.snd.fst (Int.toNat x.fst) 0) = (0 + 1) / 1 then Go.IntKind.wrap Go.IntKind.i64 (List.getD [x.snd.snd.fst, x.snd.snd.snd.fst, x.snd.snd.snd.snd.fst, x.snd.snd.snd.snd.snd.fst, x.snd.snd.snd.snd.snd.snd.fst, x.snd.snd.snd.snd.snd.snd.snd.fst] (Int.toNat (List.getD x.snd.snd.snd.snd.snd.snd.snd.snd.fst (Int.toNat x.fst) 0)) 0 + 1) else x.snd.snd.snd.fst, if Int.toNat (List.getD x.snd.snd.snd.snd.snd.snd.snd.snd.fst (Int.toNat x.fst) 0) = (0 + 1 + 1) / 1 then Go.IntKind.wrap Go.IntKind.i64 (List.getD [x.snd.snd.fst, x.snd.snd.snd.fst, x.snd.snd.snd.snd.fst, x.snd.snd.snd.snd.snd.fst, x.snd.snd.snd.snd.snd.snd.fst, x.snd.snd.snd.snd.snd.snd.snd.fst] (Int.toNat (List.getD x.snd.snd.snd.snd.snd.snd.snd.snd.fst (Int.toNat x.fst) 0)) 0 + 1) else x.snd.snd.snd.snd.fst, if Int.toNat (List.getD x.snd.snd.snd.snd.snd.snd.snd.snd.fst (Int.toNat x.fst) 0) = (0 + 1 + 1 + 1) / 1 then Go.IntKind.wrap Go.IntKind.i64 (List.getD [x.snd.snd.fst, x.snd.snd.snd.fst, x.snd.snd.snd.snd.fst, x.snd.snd.snd.snd.snd.fst, x.snd.snd.snd.snd.snd.snd.fst, x.snd.snd.snd.snd.snd.snd.snd.fst] (Int.toNat (List.getD x.snd.snd.snd.snd.snd.snd.snd.snd.fst (Int.toNat x.fst) 0)) 0 + 1) else x.snd.snd.snd.snd.snd.fst, if Int.toNat (List.getD x.snd.snd.snd.snd.snd.snd.snd.snd.fst (Int.toNat x.fst) 0) = (0 + 1 + 1 + 1 + 1) / 1 then Go.IntKind.wrap Go.IntKind.i64 (List.getD [x.snd.snd.fst, x.snd.snd.snd.fst, x.snd.snd.snd.snd.fst, x.snd.snd.snd.snd.snd.fst, x.snd.snd.snd.snd.snd.snd.fst, x.snd.snd.snd.snd.snd.snd.snd.fst] (Int.toNat (List.getD x.snd.snd.snd.snd.snd.snd.snd.snd.fst (Int.toNat x.fst) 0)) 0 + 1) else x.snd.snd.snd.snd.snd.snd.fst, if Int.toNat (List.getD x.snd.snd.snd.snd.snd.snd.snd.snd.fst (Int.toNat x.fst) 0) = (0 + 1 + 1 + 1 + 1 + 1) / 1 then Go.IntKind.wrap Go.IntKind.i64 (List.getD [x.snd.snd.fst, x.snd.snd.snd.fst, x.snd.snd.snd.snd.fst, x.snd.snd.snd.snd.snd.fst, x.snd.snd.snd.snd.snd.snd.fst, x.snd.snd.snd.snd.snd.snd.snd.fst] (Int.toNat (List.getD x.snd.snd.snd.snd.snd.snd.snd.snd.fst (Int.toNat x.fst) 0)) 0 + 1) else x.snd.snd.snd.snd.snd.snd.snd.fst, x.snd.snd.snd.snd.snd.snd.snd.snd.fst, x.snd.snd.snd.snd.snd.snd.snd.snd.snd.fst, x.snd.snd.snd.snd.snd.snd.snd.snd.snd.snd.fst, ())
          else
           none
         else
          none
        else
         none
      else
       none
    else
     none
  else
   none
 else
  bif x.snd.snd.snd.snd.snd.fst == 1 then
   bif x.snd.snd.snd.snd.snd.snd.fst == 1 then
    bif Decidable.decide (x.snd.snd.snd.snd.snd.snd.snd.fst ≤ 1) then
     bif Decidable.decide (x.snd.snd.snd.snd.fst ≤ 5) then
      Option.bind (f19 x.snd.snd.snd.snd.snd.snd.snd.snd.fst 4) fun y1 =>
       bif inRange y1.fst (List.length x.snd.fst) then
        some ((Decidable.decide (List.getD x.snd.fst (Int.toNat y1.fst) 0 > 0), ()))
       else
        none
     else
      some ((Bool.false, ()))
    else
     some ((Bool.false, ()))
   else
    some ((Bool.false, ()))
  else
   some ((Bool.false, ()))
 ) (100000000000000000000) (x)
def f4 (a0 : Int) (a1 : Int) : Option (Bool × Unit) :=
 Option.bind (f13) fun y0 =>
  bif !y0.fst then
   some ((Bool.false, ()))
  else
   Option.bind (f17 a1 3) fun y1 =>
    Option.bind (f14 a0 (Go.IntKind.wrap Go.IntKind.i64 (1 + y1.fst))) fun y2 =>
     bif y2.fst != 0 then
      some ((Bool.false, ()))
     else
      bif (↑(List.length y2.snd.fst) : Int) != 384 then
       some ((Bool.false, ()))
      else
       Option.bind (f19 y2.snd.fst 3) fun y3 =>
        Option.bind (f18 y2.snd.fst [] [y3.fst]) fun y4 =>
         f4.L1 ((0, y4.fst, 0, 0, 0, 0, 0, 0, y2.snd.fst, y2.snd.snd.fst, y2.snd.snd.snd.fst, ()))
def f4.ins : Shape := ⟨[(0, .c (.int .i64)), (1, .c (.int .i64))], []⟩
def f4.outs : List Shape := [⟨[(0, .c (.bool))], []⟩]
def f4.S : FnSpec := ⟨f4.ins, f4.outs, [], fun x => f4 x.1 x.2.1⟩
def f4.E (fuel : Nat) : Env := ⟨tis, [(14, f14.S), (19, f19.S), (13, f13.S), (20, f20.S), (18, f18.S), (17, f17.S)], [], [], [(10, ⟨[(5, .c (.ptr 0 0)), (7, .c (.own 1)), (8, .c (.ptr 2 0)), (9, .c (.int .i64))], [(0, .box [.own 3, .own 4, .own 5]), (1, .arr (.int .i64)), (2, .box [.int .i64, .int .i64, .int .i64, .int .i64, .int .i64, .int .i64]), (3, .arr (.int .u8)), (4, .arr (.prod (.int .i64) (.prod (.int .i64) (.prod (.int .i64) (.prod (.int .i64) (.prod (.int .i64) (.prod (.int .i64) (.prod (.int .i64) (.prod (.int .i64) (.prod (.int .i64) (.prod (.int .i64) (.int .i64)))))))))))), (5, .arr (.prod (.int .i64) (.prod (.int .i64) (.prod (.int .i64) (.int .i64)))))]⟩)], [], 0, [], fuel⟩
theorem f4.run : ∀ x, runFn (f4.E 100000000000000000000) Go.Proofs.Try.f4 ((Go.Proofs.Try.f4.body).getD .skip) f4.S x = f4.S.f x := by intro x; kernel_rfl
theorem f4.sound : Sound Go.Proofs.Try.prog 4 f4.S := sound_of_run (fun _ => f4.E 100000000000000000000) (by kernel_rfl) (by kernel_rfl) (by kernel_rfl) orders (fun _ => ⟨tis_ok, EqsOk.nil _, (FnsOk.cons f14.sound (FnsOk.cons f19.sound (FnsOk.cons f13.sound (FnsOk.cons f20.sound (FnsOk.cons f18.sound (FnsOk.cons f17.sound FnsOk.nil))))))⟩) (fun _ => rfl) (by kernel_rfl) (by kernel_rfl) (fun x r h => (f4.run x).trans h)
/-! f5: adit/aditlaw4.GenStocks -/
def f5.L1 (k0 : Int × List Int × List Int × List (Int × Int × Int × Int × Int × Int × Int × Int × Int × Int × Int) × List (Int × Int × Int × Int) × Unit → Option (Bool × Unit)) (x : Int × Int × List Int × Int × Int × Int × Int × Int × Int × Int × Int × Int × Int × Int × List Int × List (Int × Int × Int × Int × Int × Int × Int × Int × Int × Int × Int) × List (Int × Int × Int × Int) × Unit) : Option (Bool × Unit) :=
 it (X := Int × Int × List Int × Int × Int × Int × Int × Int × Int × Int × Int × Int × Int × Int × List Int × List (Int × Int × Int × Int × Int × Int × Int × Int × Int × Int × Int) × List (Int × Int × Int × Int) × Unit) (fun rec x =>
 bif Decidable.decide (x.snd.fst < x.fst) then
  bif inRange x.snd.fst (List.length x.snd.snd.snd.snd.snd.snd.snd.snd.snd.snd.snd.snd.snd.snd.snd.fst) then
   bif (List.getD x.snd.snd.snd.snd.snd.snd.snd.snd.snd.snd.snd.snd.snd.snd.snd.fst (Int.toNat x.snd.fst) (0, 0, 0, 0, 0, 0, 0, 0, 0, 0, 0)).snd.snd.snd.fst == x.snd.snd.snd.snd.snd.snd.fst then
    bif inRange x.snd.fst (List.length x.snd.snd.snd.snd.snd.snd.snd.snd.snd.snd.snd.snd.snd.snd.snd.fst) then
     bif (List.getD x.snd.snd.snd.snd.snd.snd.snd.snd.snd.snd.snd.snd.snd.snd.snd.fst (Int.toNat x.snd.fst) (0, 0, 0, 0, 0, 0, 0, 0, 0, 0, 0)).snd.snd.snd.snd.fst == x.snd.snd.snd.snd.snd.snd.snd.fst then
      some ((Bool.false, ()))
     else
      rec (x.fst, Go.IntKind.wrap Go.IntKind.i64 (x.snd.fst + 1), x.snd.snd.fst, x.snd.snd.snd.fst, x.snd.snd.snd.snd.fst, x.snd.snd.snd.snd.snd.fst, x.snd.snd.snd.snd.snd.snd.fst, x.snd.snd.snd.snd.snd.snd.snd.fst, x.snd.snd.snd.snd.snd.snd.snd.snd.fst, x.snd.snd.snd.snd.snd.snd.snd.snd.snd.fst, x.snd.snd.snd.snd.snd.snd.snd.snd.snd.snd.fst, x.snd.snd.snd.snd.snd.snd.snd.snd.snd.snd.snd.fst, x.snd.snd.snd.snd.snd.snd.snd.snd.snd.snd.snd.snd.fst, x.snd.snd.snd.snd.snd.snd.snd.snd.snd.snd.snd.snd.snd.fst, x.snd.snd.snd.snd.snd.snd.snd.snd.snd.snd.snd.snd.snd.snd.fst, x.snd.snd.snd.snd.snd.snd.snd.snd.snd.snd.snd.snd.snd.snd.snd.fst, x.snd.snd.snd.snd.snd.snd.snd.snd.snd.snd.snd.snd.snd.snd.snd.snd.fst, ())
    else
     none
   else
    rec (x.fst, Go.IntKind.wrap Go.IntKind.i64 (x.snd.fst + 1), x.snd.snd.fst, x.snd.snd.snd.fst, x.snd.snd.snd.snd.fst, x.snd.snd.snd.snd.snd.fst, x.snd.snd.snd.snd.snd.snd.fst, x.snd.snd.snd.snd.snd.snd.snd.fst, x.snd.snd.snd.snd.snd.snd.snd.snd.fst, x.snd.snd.snd.snd.snd.snd.snd.snd.snd.fst, x.snd.snd.snd.snd.snd.snd.snd.snd.snd.snd.fst, x.snd.snd.snd.snd.snd.snd.snd.snd.snd.snd.snd.fst, x.snd.snd.snd.snd.snd.snd.snd.snd.snd.snd.snd.snd.fst, x.snd.snd.snd.snd.snd.snd.snd.snd.snd.snd.snd.snd.snd.fst, x.snd.snd.snd.snd.snd.snd.snd.snd.snd.snd.snd.snd.snd.snd.fst, x.snd.snd.snd.snd.snd.snd.snd.snd.snd.snd.snd.snd.snd.snd.snd.fst, x.snd.snd.snd.snd.snd.snd.snd.snd.snd.snd.snd.snd.snd.snd.snd.snd.fst, ())
  else
   none
 else
  k0 (Go.IntKind.wrap Go.IntKind.i64 (x.fst + 1), x.snd.snd.fst, x.snd.snd.snd.snd.snd.snd.snd.snd.snd.snd.snd.snd.snd.snd.fst, x.snd.snd.snd.snd.snd.snd.snd.snd.snd.snd.snd.snd.snd.snd.snd.fst, x.snd.snd.snd.snd.snd.snd.snd.snd.snd.snd.snd.snd.snd.snd.snd.snd.fst, ())
 ) (100000000000000000000) (x)
def f5.L2 (k0 : Int × Int × List Int × List (Int × Int × Int × Int × Int × Int × Int × Int × Int × Int × Int) × List (Int × Int × Int × Int) × Unit → Option (Bool × Unit)) (x : Int × Int × Int × Int × Int × Int × Int × List Int × List (Int × Int × Int × Int × Int × Int × Int × Int × Int × Int × Int) × List (Int × Int × Int × Int) × Unit) : Option (Bool × Unit) :=
 it (X := Int × Int × Int × Int × Int × Int × Int × List Int × List (Int × Int × Int × Int × Int × Int × Int × Int × Int × Int × Int) × List (Int × Int × Int × Int) × Unit) (fun rec x =>
 bif Decidable.decide (x.snd.snd.fst < x.snd.fst) then
  bif inRange x.snd.snd.fst (List.length x.snd.snd.snd.snd.snd.snd.snd.snd.snd.fst) then
   bif (List.getD x.snd.snd.snd.snd.snd.snd.snd.snd.snd.fst (Int.toNat x.snd.snd.fst) (0, 0, 0, 0)).fst == x.snd.snd.snd.fst && ((List.getD x.snd.snd.snd.snd.snd.snd.snd.snd.snd.fst (Int.toNat x.snd.snd.fst) (0, 0, 0, 0)).snd.fst == x.snd.snd.snd.snd.fst && ((List.getD x.snd.snd.snd.snd.snd.snd.snd.snd.snd.fst (Int.toNat x.snd.snd.fst) (0, 0, 0, 0)).snd.snd.fst == x.snd.snd.snd.snd.snd.fst && ((List.getD x.snd.snd.snd.snd.snd.snd.snd.snd.snd.fst (Int.toNat x.snd.snd.fst) (0, 0, 0, 0)).snd.snd.snd == x.snd.snd.snd.snd.snd.snd.fst && Bool.true))) then
    some ((Bool.false, ()))
   else
    bif inRange x.snd.snd.fst (List.length x.snd.snd.snd.snd.snd.snd.snd.snd.snd.fst) then
     bif (List.getD x.snd.snd.snd.snd.snd.snd.snd.snd.snd.fst (Int.toNat x.snd.snd.fst) (0, 0, 0, 0)).snd.fst == 1 then
      bif inRange x.snd.snd.fst (List.length x.snd.snd.snd.snd.snd.snd.snd.snd.snd.fst) then
       bif (List.getD x.snd.snd.snd.snd.snd.snd.snd.snd.snd.fst (Int.toNat x.snd.snd.fst) (0, 0, 0, 0)).snd.snd.fst == x.snd.snd.snd.snd.snd.fst then
        bif inRange x.snd.snd.fst (List.length x.snd.snd.snd.snd.snd.snd.snd.snd.snd.fst) then
         bif (List.getD x.snd.snd.snd.snd.snd.snd.snd.snd.snd.fst (Int.toNat x.snd.snd.fst) (0, 0, 0, 0)).snd.snd.snd == x.snd.snd.snd.snd.snd.snd.fst then
          some ((Bool.false, ()))
         else
          rec (x.fst, x.snd.fst, Go.IntKind.wrap Go.IntKind.i64 (x.snd.snd.fst + 1), x.snd.snd.snd.fst, x.snd.snd.snd.snd.fst, x.snd.snd.snd.snd.snd.fst, x.snd.snd.snd.snd.snd.snd.fst, x.snd.snd.snd.snd.snd.snd.snd.fst, x.snd.snd.snd.snd.snd.snd.snd.snd.fst, x.snd.snd.snd.snd.snd.snd.snd.snd.snd.fst, ())
        else
         none
       else
        rec (x.fst, x.snd.fst, Go.IntKind.wrap Go.IntKind.i64 (x.snd.snd.fst + 1), x.snd.snd.snd.fst, x.snd.snd.snd.snd.fst, x.snd.snd.snd.snd.snd.fst, x.snd.snd.snd.snd.snd.snd.fst, x.snd.snd.snd.snd.snd.snd.snd.fst, x.snd.snd.snd.snd.snd.snd.snd.snd.fst, x.snd.snd.snd.snd.snd.snd.snd.snd.snd.fst, ())
      else
       none
     else
      rec (x.fst, x.snd.fst, Go.IntKind.wrap Go.IntKind.i64 (x.snd.snd.fst + 1), x.snd.snd.snd.fst, x.snd.snd.snd.snd.fst, x.snd.snd.snd.snd.snd.fst, x.snd.snd.snd.snd.snd.snd.fst, x.snd.snd.snd.snd.snd.snd.snd.fst, x.snd.snd.snd.snd.snd.snd.snd.snd.fst, x.snd.snd.snd.snd.snd.snd.snd.snd.snd.fst, ())
    else
     none
  else
   none
 else
  k0 (x.fst, Go.IntKind.wrap Go.IntKind.i64 (x.snd.fst + 1), x.snd.snd.snd.snd.snd.snd.snd.fst, x.snd.snd.snd.snd.snd.snd.snd.snd.fst, x.snd.snd.snd.snd.snd.snd.snd.snd.snd.fst, ())
 ) (100000000000000000000) (x)
def f5.L3 (x : Int × Int × List Int × List (Int × Int × Int × Int × Int × Int × Int × Int × Int × Int × Int) × List (Int × Int × Int × Int) × Unit) : Option (Bool × Unit) :=
 it (X := Int × Int × List Int × List (Int × Int × Int × Int × Int × Int × Int × Int × Int × Int × Int) × List (Int × Int × Int × Int) × Unit) (fun rec x =>
 bif Decidable.decide (x.snd.fst < (↑(List.length x.snd.snd.snd.snd.fst) : Int)) then
  bif inRange x.snd.fst (List.length x.snd.snd.snd.snd.fst) then
   bif Decidable.decide ((List.getD x.snd.snd.snd.snd.fst (Int.toNat x.snd.fst) (0, 0, 0, 0)).fst < 1) then
    some ((Bool.false, ()))
   else
    bif Decidable.decide ((List.getD x.snd.snd.snd.snd.fst (Int.toNat x.snd.fst) (0, 0, 0, 0)).fst > 4) then
     some ((Bool.false, ()))
    else
     bif (List.getD x.snd.snd.snd.snd.fst (Int.toNat x.snd.fst) (0, 0, 0, 0)).snd.fst == 4 then
      rec (Go.IntKind.wrap Go.IntKind.i64 (x.fst + 1), Go.IntKind.wrap Go.IntKind.i64 (x.snd.fst + 1), x.snd.snd.fst, x.snd.snd.snd.fst, x.snd.snd.snd.snd.fst, ())
     else
      bif (List.getD x.snd.snd.snd.snd.fst (Int.toNat x.snd.fst) (0, 0, 0, 0)).snd.fst != 1 then
       some ((Bool.false, ()))
      else
       Option.bind (f21 x.snd.snd.fst (List.getD x.snd.snd.snd.snd.fst (Int.toNat x.snd.fst) (0, 0, 0, 0)).snd.snd.fst (List.getD x.snd.snd.snd.snd.fst (Int.toNat x.snd.fst) (0, 0, 0, 0)).snd.snd.snd) fun y0 =>
        bif y0.fst != 1 then
         some ((Bool.false, ()))
        else
         f5.L2 rec ((x.fst, x.snd.fst, 0, (List.getD x.snd.snd.snd.snd.fst (Int.toNat x.snd.fst) (0, 0, 0, 0)).fst, (List.getD x.snd.snd.snd.snd.fst (Int.toNat x.snd.fst) (0, 0, 0, 0)).snd.fst, (List.getD x.snd.snd.snd.snd.fst (Int.toNat x.snd.fst) (0, 0, 0, 0)).snd.snd.fst, (List.getD x.snd.snd.snd.snd.fst (Int.toNat x.snd.fst) (0, 0, 0, 0)).snd.snd.snd, x.snd.snd.fst, x.snd.snd.snd.fst, x.snd.snd.snd.snd.fst, ()))
  else
   none
 else
  Option.bind (f19 x.snd.snd.fst 5) fun y1 =>
   bif (x.fst == 3) == Decidable.decide (y1.fst ≥ 0) then
    bif x.fst == 0 then
     some ((Bool.true, ()))
    else
     some ((x.fst == 3, ()))
   else
    some ((Bool.false, ()))
 ) (100000000000000000000) (x)
def f5.L4 (x : Int × List Int × List Int × List (Int × Int × Int × Int × Int × Int × Int × Int × Int × Int × Int) × List (Int × Int × Int × Int) × Unit) : Option (Bool × Unit) :=
 it (X := Int × List Int × List Int × List (Int × Int × Int × Int × Int × Int × Int × Int × Int × Int × Int) × List (Int × Int × Int × Int) × Unit) (fun rec x =>
 bif Decidable.decide (x.fst < (↑(List.length x.snd.snd.snd.fst) : Int)) then
  bif inRange x.fst (List.length x.snd.snd.snd.fst) then
   Option.bind (f21 x.snd.snd.fst (List.getD x.snd.snd.snd.fst (Int.toNat x.fst) (0, 0, 0, 0, 0, 0, 0, 0, 0, 0, 0)).snd.snd.snd.fst (List.getD x.snd.snd.snd.fst (Int.toNat x.fst) (0, 0, 0, 0, 0, 0, 0, 0, 0, 0, 0)).snd.snd.snd.snd.fst) fun y0 =>
    bif y0.fst != 1 then
     some ((Bool.false, ()))
    else
     bif inRange (Go.IntKind.wrap Go.IntKind.i64 (Go.IntKind.wrap Go.IntKind.i64 ((List.getD x.snd.snd.snd.fst (Int.toNat x.fst) (0, 0, 0, 0, 0, 0, 0, 0, 0, 0, 0)).snd.snd.snd.snd.fst * 24) + (List.getD x.snd.snd.snd.fst (Int.toNat x.fst) (0, 0, 0, 0, 0, 0, 0, 0, 0, 0, 0)).snd.snd.snd.fst)) (List.length x.snd.fst) then
      bif Decidable.decide (List.getD x.snd.fst (Int.toNat (Go.IntKind.wrap Go.IntKind.i64 (Go.IntKind.wrap Go.IntKind.i64 ((List.getD x.snd.snd.snd.fst (Int.toNat x.fst) (0, 0, 0, 0, 0, 0, 0, 0, 0, 0, 0)).snd.snd.snd.snd.fst * 24) + (List.getD x.snd.snd.snd.fst (Int.toNat x.fst) (0, 0, 0, 0, 0, 0, 0, 0, 0, 0, 0)).snd.snd.snd.fst))) 0 < 4) then
       some ((Bool.false, ()))
      else
       bif Decidable.decide ((List.getD x.snd.snd.snd.fst (Int.toNat x.fst) (0, 0, 0, 0, 0, 0, 0, 0, 0, 0, 0)).fst < 2) then
        some ((Bool.false, ()))
       else
        bif Decidable.decide ((List.getD x.snd.snd.snd.fst (Int.toNat x.fst) (0, 0, 0, 0, 0, 0, 0, 0, 0, 0, 0)).fst > 4) then
         some ((Bool.false, ()))
        else
         bif (List.getD x.snd.snd.snd.fst (Int.toNat x.fst) (0, 0, 0, 0, 0, 0, 0, 0, 0, 0, 0)).snd.snd.snd.snd.snd.fst != (List.getD x.snd.snd.snd.fst (Int.toNat x.fst) (0, 0, 0, 0, 0, 0, 0, 0, 0, 0, 0)).snd.snd.snd.snd.snd.snd.fst then
          some ((Bool.false, ()))
         else
          bif Decidable.decide ((List.getD x.snd.snd.snd.fst (Int.toNat x.fst) (0, 0, 0, 0, 0, 0, 0, 0, 0, 0, 0)).snd.snd.snd.snd.snd.fst < 1) then
           some ((Bool.false, ()))
          else
           f5.L1 rec ((x.fst, 0, x.snd.fst, (List.getD x.snd.snd.snd.fst (Int.toNat x.fst) (0, 0, 0, 0, 0, 0, 0, 0, 0, 0, 0)).fst, (List.getD x.snd.snd.snd.fst (Int.toNat x.fst) (0, 0, 0, 0, 0, 0, 0, 0, 0, 0, 0)).snd.fst, (List.getD x.snd.snd.snd.fst (Int.toNat x.fst) (0, 0, 0, 0, 0, 0, 0, 0, 0, 0, 0)).snd.snd.fst, (List.getD x.snd.snd.snd.fst (Int.toNat x.fst) (0, 0, 0, 0, 0, 0, 0, 0, 0, 0, 0)).snd.snd.snd.fst, (List.getD x.snd.snd.snd.fst (Int.toNat x.fst) (0, 0, 0, 0, 0, 0, 0, 0, 0, 0, 0)).snd.snd.snd.snd.fst, (List.getD x.snd.snd.snd.fst (Int.toNat x.fst) (0, 0, 0, 0, 0, 0, 0, 0, 0, 0, 0)).snd.snd.snd.snd.snd.fst, (List.getD x.snd.snd.snd.fst (Int.toNat x.fst) (0, 0, 0, 0, 0, 0, 0, 0, 0, 0, 0)).snd.snd.snd.snd.snd.snd.fst, (List.getD x.snd.snd.snd.fst (Int.toNat x.fst) (0, 0, 0, 0, 0, 0, 0, 0, 0, 0, 0)).snd.snd.snd.snd.snd.snd.snd.fst, (List.getD x.snd.snd.snd.fst (Int.toNat x.fst) (0, 0, 0, 0, 0, 0, 0, 0, 0, 0, 0)).snd.snd.snd.snd.snd.snd.snd.snd.fst, (List.getD x.snd.snd.snd.fst (Int.toNat x.fst) (0, 0, 0, 0, 0, 0, 0, 0, 0, 0, 0)).snd.snd.snd.snd.snd.snd.snd.snd.snd.fst, (List.getD x.snd.snd.snd.fst (Int.toNat x.fst) (0, 0, 0, 0, 0, 0, 0, 0, 0, 0, 0)).snd.snd.snd.snd.snd.snd.snd.snd.snd.snd, x.snd.snd.fst, x.snd.snd.snd.fst, x.snd.snd.snd.snd.fst, ()))
     else
      none
  else
   none
 else
  f5.L3 ((0, 0, x.snd.snd.fst, x.snd.snd.snd.fst, x.snd.snd.snd.snd.fst, ()))
 ) (100000000000000000000) (x)
def f5 (a0 : Int) (a1 : Int) : Option (Bool × Unit) :=
 Option.bind (f13) fun y0 =>
  bif !y0.fst then
   some ((Bool.false, ()))
  else
   Option.bind (f17 a1 3) fun y1 =>
    Option.bind (f14 a0 (Go.IntKind.wrap Go.IntKind.i64 (1 + y1.fst))) fun y2 =>
     bif y2.fst != 0 then
      some ((Bool.false, ()))
     else
      Option.bind (f19 y2.snd.fst 3) fun y3 =>
       Option.bind (f18 y2.snd.fst [] [y3.fst]) fun y4 =>
        bif Decidable.decide ((↑(List.length y2.snd.snd.fst) : Int) > Go.IntKind.wrap Go.IntKind.i64 (Go.IntKind.wrap Go.IntKind.i64 (1 + y1.fst) + 2)) then
         some ((Bool.false, ()))
        else
         bif Decidable.decide ((↑(List.length y2.snd.snd.snd.fst) : Int) > 7) then
          some ((Bool.false, ()))
         else
          f5.L4 ((0, y4.fst, y2.snd.fst, y2.snd.snd.fst, y2.snd.snd.snd.fst, ()))
def f5.ins : Shape := ⟨[(0, .c (.int .i64)), (1, .c (.int .i64))], []⟩
def f5.outs : List Shape := [⟨[(0, .c (.bool))], []⟩]
def f5.S : FnSpec := ⟨f5.ins, f5.outs, [], fun x => f5 x.1 x.2.1⟩
def f5.E (fuel : Nat) : Env := ⟨tis, [(14, f14.S), (19, f19.S), (13, f13.S), (21, f21.S), (18, f18.S), (17, f17.S)], [(45, [.int .i64, .int .i64, .int .i64, .int .i64])], [], [(12, ⟨[(5, .c (.ptr 0 0)), (7, .c (.own 1)), (8, .c (.int .i64))], [(0, .box [.own 2, .own 3, .own 4]), (1, .arr (.int .i64)), (2, .arr (.int .u8)), (3, .arr (.prod (.int .i64) (.prod (.int .i64) (.prod (.int .i64) (.prod (.int .i64) (.prod (.int .i64) (.prod (.int .i64) (.prod (.int .i64) (.prod (.int .i64) (.prod (.int .i64) (.prod (.int .i64) (.int .i64)))))))))))), (4, .arr (.prod (.int .i64) (.prod (.int .i64) (.prod (.int .i64) (.int .i64)))))]⟩), (18, ⟨[(5, .c (.ptr 0 0)), (7, .c (.own 1)), (8, .c (.int .i64)), (9, .c (.ptr 2 0)), (10, .c (.int .i64))], [(0, .box [.own 3, .own 4, .own 5]), (1, .arr (.int .i64)), (2, .box [.int .i64, .int .i64, .int .i64, .int .i64, .int .i64, .int .i64, .int .i64, .int .i64, .int .i64, .int .i64, .int .i64]), (3, .arr (.int .u8)), (4, .arr (.prod (.int .i64) (.prod (.int .i64) (.prod (.int .i64) (.prod (.int .i64) (.prod (.int .i64) (.prod (.int .i64) (.prod (.int .i64) (.prod (.int .i64) (.prod (.int .i64) (.prod (.int .i64) (.int .i64)))))))))))), (5, .arr (.prod (.int .i64) (.prod (.int .i64) (.prod (.int .i64) (.int .i64)))))]⟩), (24, ⟨[(5, .c (.ptr 0 0)), (11, .c (.int .i64)), (12, .c (.int .i64))], [(0, .box [.own 1, .own 2, .own 3]), (1, .arr (.int .u8)), (2, .arr (.prod (.int .i64) (.prod (.int .i64) (.prod (.int .i64) (.prod (.int .i64) (.prod (.int .i64) (.prod (.int .i64) (.prod (.int .i64) (.prod (.int .i64) (.prod (.int .i64) (.prod (.int .i64) (.int .i64)))))))))))), (3, .arr (.prod (.int .i64) (.prod (.int .i64) (.prod (.int .i64) (.int .i64)))))]⟩), (34, ⟨[(5, .c (.ptr 0 0)), (11, .c (.int .i64)), (12, .c (.int .i64)), (13, .c (.ptr 1 0)), (14, .c (.int .i64))], [(0, .box [.own 2, .own 3, .own 4]), (1, .box [.int .i64, .int .i64, .int .i64, .int .i64]), (2, .arr (.int .u8)), (3, .arr (.prod (.int .i64) (.prod (.int .i64) (.prod (.int .i64) (.prod (.int .i64) (.prod (.int .i64) (.prod (.int .i64) (.prod (.int .i64) (.prod (.int .i64) (.prod (.int .i64) (.prod (.int .i64) (.int .i64)))))))))))), (4, .arr (.prod (.int .i64) (.prod (.int .i64) (.prod (.int .i64) (.int .i64)))))]⟩)], [], 0, [], fuel⟩
theorem f5.run : ∀ x, runFn (f5.E 100000000000000000000) Go.Proofs.Try.f5 ((Go.Proofs.Try.f5.body).getD .skip) f5.S x = f5.S.f x := by intro x; kernel_rfl
theorem f5.sound : Sound Go.Proofs.Try.prog 5 f5.S := sound_of_run (fun _ => f5.E 100000000000000000000) (by kernel_rfl) (by kernel_rfl) (by kernel_rfl) orders (fun _ => ⟨tis_ok, (EqsOk.cons eq45 (EqsOk.nil _)), (FnsOk.cons f14.sound (FnsOk.cons f19.sound (FnsOk.cons f13.sound (FnsOk.cons f21.sound (FnsOk.cons f18.sound (FnsOk.cons f17.sound FnsOk.nil))))))⟩) (fun _ => rfl) (by kernel_rfl) (by kernel_rfl) (fun x r h => (f5.run x).trans h)
/-! f6: adit/aditlaw4.GenAgain -/
def f6 (a0 : Int) (a1 : Int) (a2 : Int) : Option (Bool × Unit) :=
 Option.bind (f13) fun y0 =>
  bif !y0.fst then
   some ((Bool.false, ()))
  else
   Option.bind (f17 a1 3) fun y1 =>
    Option.bind (f14 a0 (Go.IntKind.wrap Go.IntKind.i64 (1 + y1.fst))) fun y2 =>
     Option.bind (f17 a2 384) fun y3 =>
      bif inRange y3.fst (List.length y2.snd.fst) then
       bif inRange y3.fst (List.length y2.snd.fst) then
        Option.bind (f14 a0 (Go.IntKind.wrap Go.IntKind.i64 (1 + y1.fst))) fun y4 =>
         bif y2.fst != 0 then
          some ((Bool.false, ()))
         else
          bif y4.fst != 0 then
           some ((Bool.false, ()))
          else
           bif inRange y3.fst (List.length y4.snd.fst) then
            bif List.getD y4.snd.fst (Int.toNat y3.fst) 0 != List.getD y2.snd.fst (Int.toNat y3.fst) 0 then
             some ((Bool.false, ()))
            else
             bif (↑(List.length y2.snd.snd.fst) : Int) != (↑(List.length y4.snd.snd.fst) : Int) then
              some ((Bool.false, ()))
             else
              bif (↑(List.length y2.snd.snd.snd.fst) : Int) != (↑(List.length y4.snd.snd.snd.fst) : Int) then
               some ((Bool.false, ()))
              else
               bif inRange y3.fst (List.length (List.set y2.snd.fst (Int.toNat y3.fst) 99)) then
                some ((ByteArray.toList (bytesOf (List.set (List.set y2.snd.fst (Int.toNat y3.fst) 99) (Int.toNat y3.fst) (List.getD y2.snd.fst (Int.toNat y3.fst) 0))) == ByteArray.toList (bytesOf y4.snd.fst), ()))
               else
                none
           else
            none
       else
        none
      else
       none
def f6.ins : Shape := ⟨[(0, .c (.int .i64)), (1, .c (.int .i64)), (2, .c (.int .i64))], []⟩
def f6.outs : List Shape := [⟨[(0, .c (.bool))], []⟩]
def f6.S : FnSpec := ⟨f6.ins, f6.outs, [], fun x => f6 x.1 x.2.1 x.2.2.1⟩
def f6.E (fuel : Nat) : Env := ⟨tis, [(14, f14.S), (13, f13.S), (17, f17.S)], [], [], [], [], 0, [], fuel⟩
theorem f6.run : ∀ x, runFn (f6.E 100000000000000000000) Go.Proofs.Try.f6 ((Go.Proofs.Try.f6.body).getD .skip) f6.S x = f6.S.f x := by intro x; kernel_rfl
theorem f6.sound : Sound Go.Proofs.Try.prog 6 f6.S := sound_of_run (fun _ => f6.E 100000000000000000000) (by kernel_rfl) (by kernel_rfl) (by kernel_rfl) orders (fun _ => ⟨tis_ok, EqsOk.nil _, (FnsOk.cons f14.sound (FnsOk.cons f13.sound (FnsOk.cons f17.sound FnsOk.nil)))⟩) (fun _ => rfl) (by kernel_rfl) (by kernel_rfl) (fun x r h => (f6.run x).trans h)
/-! f7: adit/aditlaw4.GenRooms -/
def f7.L1 (k0 : Int × Int × List Int × List (Int × Int × Int × Int × Int × Int × Int × Int × Int × Int × Int) × List (Int × Int × Int × Int) × Unit → Option (Bool × Unit)) (x : Int × Int × Int × Int × List Int × List (Int × Int × Int × Int × Int × Int × Int × Int × Int × Int × Int) × List (Int × Int × Int × Int) × Unit) : Option (Bool × Unit) :=
 it (X := Int × Int × Int × Int × List Int × List (Int × Int × Int × Int × Int × Int × Int × Int × Int × Int × Int) × List (Int × Int × Int × Int) × Unit) (fun rec x =>
 bif Decidable.decide (x.snd.snd.snd.fst < 4) then
  bif inRange x.snd.snd.snd.fst 4 then
   bif inRange (Go.IntKind.wrap Go.IntKind.i64 (x.snd.fst + List.getD [-24, 1, 24, -1] (Int.toNat x.snd.snd.snd.fst) 0)) (List.length x.snd.snd.snd.snd.fst) then
    bif List.getD x.snd.snd.snd.snd.fst (Int.toNat (Go.IntKind.wrap Go.IntKind.i64 (x.snd.fst + List.getD [-24, 1, 24, -1] (Int.toNat x.snd.snd.snd.fst) 0))) 0 != 0 then
     rec (x.fst, x.snd.fst, Go.IntKind.wrap Go.IntKind.i64 (x.snd.snd.fst + 1), Go.IntKind.wrap Go.IntKind.i64 (x.snd.snd.snd.fst + 1), x.snd.snd.snd.snd.fst, x.snd.snd.snd.snd.snd.fst, x.snd.snd.snd.snd.snd.snd.fst, ())
    else
     rec (x.fst, x.snd.fst, x.snd.snd.fst, Go.IntKind.wrap Go.IntKind.i64 (x.snd.snd.snd.fst + 1), x.snd.snd.snd.snd.fst, x.snd.snd.snd.snd.snd.fst, x.snd.snd.snd.snd.snd.snd.fst, ())
   else
    none
  else
   none
 else
  bif x.snd.snd.fst == 0 then
   some ((Bool.false, ()))
  else
   k0 (x.fst, Go.IntKind.wrap Go.IntKind.i64 (x.snd.fst + 1), x.snd.snd.snd.snd.fst, x.snd.snd.snd.snd.snd.fst, x.snd.snd.snd.snd.snd.snd.fst, ())
 ) (100000000000000000000) (x)
def f7.L2 (x : Int × Int × List Int × List (Int × Int × Int × Int × Int × Int × Int × Int × Int × Int × Int) × List (Int × Int × Int × Int) × Unit) : Option (Bool × Unit) :=
 it (X := Int × Int × List Int × List (Int × Int × Int × Int × Int × Int × Int × Int × Int × Int × Int) × List (Int × Int × Int × Int) × Unit) (fun rec x =>
 bif Decidable.decide (x.snd.fst < 384) then
  bif inRange x.snd.fst (List.length x.snd.snd.fst) then
   bif List.getD x.snd.snd.fst (Int.toNat x.snd.fst) 0 == 0 then
    rec (x.fst, Go.IntKind.wrap Go.IntKind.i64 (x.snd.fst + 1), x.snd.snd.fst, x.snd.snd.snd.fst, x.snd.snd.snd.snd.fst, ())
   else
    f7.L1 rec ((Go.IntKind.wrap Go.IntKind.i64 (x.fst + 1), x.snd.fst, 0, 0, x.snd.snd.fst, x.snd.snd.snd.fst, x.snd.snd.snd.snd.fst, ()))
  else
   none
 else
  some ((Decidable.decide (x.fst ≥ 6), ()))
 ) (100000000000000000000) (x)
def f7 (a0 : Int) (a1 : Int) : Option (Bool × Unit) :=
 Option.bind (f13) fun y0 =>
  bif !y0.fst then
   some ((Bool.false, ()))
  else
   Option.bind (f17 a1 3) fun y1 =>
    Option.bind (f14 a0 (Go.IntKind.wrap Go.IntKind.i64 (1 + y1.fst))) fun y2 =>
     bif y2.fst != 0 then
      some ((Bool.false, ()))
     else
      bif (↑(List.length y2.snd.fst) : Int) != 384 then
       some ((Bool.false, ()))
      else
       f7.L2 ((0, 0, y2.snd.fst, y2.snd.snd.fst, y2.snd.snd.snd.fst, ()))
def f7.ins : Shape := ⟨[(0, .c (.int .i64)), (1, .c (.int .i64))], []⟩
def f7.outs : List Shape := [⟨[(0, .c (.bool))], []⟩]
def f7.S : FnSpec := ⟨f7.ins, f7.outs, [], fun x => f7 x.1 x.2.1⟩
def f7.E (fuel : Nat) : Env := ⟨tis, [(14, f14.S), (13, f13.S), (17, f17.S)], [], [], [(9, ⟨[(5, .c (.ptr 0 0)), (7, .c (.int .i64)), (8, .c (.int .i64))], [(0, .box [.own 1, .own 2, .own 3]), (1, .arr (.int .u8)), (2, .arr (.prod (.int .i64) (.prod (.int .i64) (.prod (.int .i64) (.prod (.int .i64) (.prod (.int .i64) (.prod (.int .i64) (.prod (.int .i64) (.prod (.int .i64) (.prod (.int .i64) (.prod (.int .i64) (.int .i64)))))))))))), (3, .arr (.prod (.int .i64) (.prod (.int .i64) (.prod (.int .i64) (.int .i64)))))]⟩), (15, ⟨[(5, .c (.ptr 0 0)), (7, .c (.int .i64)), (8, .c (.int .i64)), (9, .c (.int .i64)), (10, .c (.int .i64))], [(0, .box [.own 1, .own 2, .own 3]), (1, .arr (.int .u8)), (2, .arr (.prod (.int .i64) (.prod (.int .i64) (.prod (.int .i64) (.prod (.int .i64) (.prod (.int .i64) (.prod (.int .i64) (.prod (.int .i64) (.prod (.int .i64) (.prod (.int .i64) (.prod (.int .i64) (.int .i64)))))))))))), (3, .arr (.prod (.int .i64) (.prod (.int .i64) (.prod (.int .i64) (.int .i64)))))]⟩)], [], 0, [], fuel⟩
theorem f7.run : ∀ x, runFn (f7.E 100000000000000000000) Go.Proofs.Try.f7 ((Go.Proofs.Try.f7.body).getD .skip) f7.S x = f7.S.f x := by intro x; kernel_rfl
theorem f7.sound : Sound Go.Proofs.Try.prog 7 f7.S := sound_of_run (fun _ => f7.E 100000000000000000000) (by kernel_rfl) (by kernel_rfl) (by kernel_rfl) orders (fun _ => ⟨tis_ok, EqsOk.nil _, (FnsOk.cons f14.sound (FnsOk.cons f13.sound (FnsOk.cons f17.sound FnsOk.nil)))⟩) (fun _ => rfl) (by kernel_rfl) (by kernel_rfl) (fun x r h => (f7.run x).trans h)
end
end Go.Proofs.Ytbekimnigknapaa.Run

/- Functions of the program as Lean functions: printed by a tool of this session (own work). -/
import Derived.Test.YtjgodjdojifpoaaProg
import Derived.Test.YtjgodjdojifpoaaMxY
namespace Go.Proofs.Ytjgodjdojifpoaa.Run
open Go Go.Proofs.Ytjgodjdojifpoaa.Mx
set_option autoImplicit false
set_option linter.unusedVariables false
set_option maxRecDepth 100000
set_option maxHeartbeats 4000000
noncomputable section
def ty3 : TI := ⟨.int .i64, 1, 8, [.int .i64 0], some (.int .i64)⟩
def ty4 : TI := ⟨.bool, 1, 1, [.bool false], some .bool⟩
def ty25 : TI := ⟨.ptr 57, 1, 8, [.nilp], none⟩
def ty30 : TI := ⟨.slice 3, 1, 24, [.nils], some (.row (.int .i64))⟩
def ty51 : TI := ⟨.slice 4, 1, 24, [.nils], some (.row .bool)⟩
def ty57 : TI := ⟨.struct [(0, 51), (1, 3)], 2, 32, [.nils, .int .i64 0], some (.prod (.row .bool) (.int .i64))⟩
def tis : List (Nat × TI) := [(3, ty3), (4, ty4), (25, ty25), (30, ty30), (51, ty51), (57, ty57)]
theorem ty3_ok : TIok Go.Proofs.Try.prog 3 ty3 := ⟨by kernel_rfl, by kernel_rfl, by kernel_rfl, by kernel_rfl, by kernel_rfl, by kernel_rfl, by kernel_rfl, by kernel_rfl⟩
theorem ty4_ok : TIok Go.Proofs.Try.prog 4 ty4 := ⟨by kernel_rfl, by kernel_rfl, by kernel_rfl, by kernel_rfl, by kernel_rfl, by kernel_rfl, by kernel_rfl, by kernel_rfl⟩
theorem ty25_ok : TIok Go.Proofs.Try.prog 25 ty25 := ⟨by kernel_rfl, by kernel_rfl, by kernel_rfl, by kernel_rfl, by kernel_rfl, by kernel_rfl, by kernel_rfl, by kernel_rfl⟩
theorem ty30_ok : TIok Go.Proofs.Try.prog 30 ty30 := ⟨by kernel_rfl, by kernel_rfl, by kernel_rfl, by kernel_rfl, by kernel_rfl, by kernel_rfl, by kernel_rfl, by kernel_rfl⟩
theorem ty51_ok : TIok Go.Proofs.Try.prog 51 ty51 := ⟨by kernel_rfl, by kernel_rfl, by kernel_rfl, by kernel_rfl, by kernel_rfl, by kernel_rfl, by kernel_rfl, by kernel_rfl⟩
theorem ty57_ok : TIok Go.Proofs.Try.prog 57 ty57 := ⟨by kernel_rfl, by kernel_rfl, by kernel_rfl, by kernel_rfl, by kernel_rfl, by kernel_rfl, by kernel_rfl, by kernel_rfl⟩
theorem tis_ok : TIs Go.Proofs.Try.prog tis := (TIs.cons ty3_ok (TIs.cons ty4_ok (TIs.cons ty25_ok (TIs.cons ty30_ok (TIs.cons ty51_ok (TIs.cons ty57_ok (TIs.nil _)))))))
theorem orders : Go.Proofs.Try.prog.follows .mixedOrders = true := by kernel_rfl
/-! f9: adit/chunk.NewSender -/
def f9 (a0 : Int) : Option (Int × Unit ⊕ Int × Int × List Bool × Unit) :=
 bif Decidable.decide (a0 < 1) then
  some (Sum.inl (1, ()))
 else
  bif Decidable.decide (a0 > 16) then
   some (Sum.inl (1, ()))
  else
   bif Decidable.decide (0 ≤ a0 ∧ a0 ≤ a0 ∧ a0 ≤ (↑(limit 1) : Int)) then
    some (Sum.inr (0, 0, List.replicate (Int.toNat a0) Bool.false, ()))
   else
    none
def f9.ins : Shape := ⟨[(0, .c (.int .i64))], []⟩
def f9.outs : List Shape := [⟨[(0, .c (.nilp)), (1, .c (.int .i64))], []⟩, ⟨[(0, .c (.ptr 0 0)), (1, .c (.int .i64))], [(0, .box [.own 1, .int .i64]), (1, .arr .bool)]⟩]
def f9.S : FnSpec := ⟨f9.ins, f9.outs, [], fun x => f9 x.1⟩
def f9.E (fuel : Nat) : Env := ⟨tis, [], [], [], [], [], 0, [], fuel⟩
theorem f9.run : ∀ x, runFn (f9.E 100000000000000000000) Go.Proofs.Try.f9 ((Go.Proofs.Try.f9.body).getD .skip) f9.S x = f9.S.f x := by intro x; kernel_rfl
theorem f9.sound : Sound Go.Proofs.Try.prog 9 f9.S := sound_of_run (fun _ => f9.E 100000000000000000000) (by kernel_rfl) (by kernel_rfl) (by kernel_rfl) orders (fun _ => ⟨tis_ok, EqsOk.nil _, FnsOk.nil⟩) (fun _ => rfl) (by kernel_rfl) (by kernel_rfl) (fun x r h => (f9.run x).trans h)
/-! f11: (*adit/chunk.Sender).Next -/
def f11.L1 (x : Int × Int × Int × Int × Int × List Bool × List Int × Unit) : Option (Int × List Bool × List Int × Unit ⊕ Int × List Bool × List Int × Unit) :=
 it (X := Int × Int × Int × Int × Int × List Bool × List Int × Unit) (fun rec x =>
 bif Decidable.decide (x.snd.snd.snd.fst < x.snd.snd.fst) then
  bif Decidable.decide ((↑(List.length x.snd.snd.snd.snd.snd.snd.fst) : Int) ≥ x.fst) then
   some (Sum.inl (x.snd.snd.snd.snd.fst, x.snd.snd.snd.snd.snd.fst, x.snd.snd.snd.snd.snd.snd.fst, ()))
  else
   Option.bind (α := Int × Int × Int × Int × Int × List Bool × List Int × Unit ⊕ Int × List Bool × List Int × Unit ⊕ Int × List Bool × List Int × Unit) (
    bif inRange x.snd.fst (List.length x.snd.snd.snd.snd.snd.fst) then
     bif !List.getD x.snd.snd.snd.snd.snd.fst (Int.toNat x.snd.fst) Bool.false then
      bif Decidable.decide (List.length x.snd.snd.snd.snd.snd.snd.fst + 1 ≤ limit 8) then
       bif Decidable.decide ((↑(List.length x.snd.snd.snd.snd.snd.fst) : Int) = 0) then
        none
       else
        some (Sum.inl (x.fst, x.snd.fst, x.snd.snd.fst, x.snd.snd.snd.fst, Int.tmod (Go.IntKind.wrap Go.IntKind.i64 (x.snd.fst + 1)) (↑(List.length x.snd.snd.snd.snd.snd.fst) : Int), x.snd.snd.snd.snd.snd.fst, x.snd.snd.snd.snd.snd.snd.fst ++ [x.snd.fst], ()))
      else
       none
     else
      some (Sum.inl (x.fst, x.snd.fst, x.snd.snd.fst, x.snd.snd.snd.fst, x.snd.snd.snd.snd.fst, x.snd.snd.snd.snd.snd.fst, x.snd.snd.snd.snd.snd.snd.fst, ()))
    else
     none
   ) fun y0 =>
    Sum.elim (fun y1 =>
     bif Decidable.decide ((↑(List.length y1.snd.snd.snd.snd.snd.fst) : Int) = 0) then
      none
     else
      rec (y1.fst, Int.tmod (Go.IntKind.wrap Go.IntKind.i64 (y1.snd.fst + 1)) (↑(List.length y1.snd.snd.snd.snd.snd.fst) : Int), y1.snd.snd.fst, Go.IntKind.wrap Go.IntKind.i64 (y1.snd.snd.snd.fst + 1), y1.snd.snd.snd.snd.fst, y1.snd.snd.snd.snd.snd.fst, y1.snd.snd.snd.snd.snd.snd.fst, ())
    ) (fun z2 =>
     some (z2)
    ) (y0)
 else
  some (Sum.inl (x.snd.snd.snd.snd.fst, x.snd.snd.snd.snd.snd.fst, x.snd.snd.snd.snd.snd.snd.fst, ()))
 ) (100000000000000000000) (x)
def f11 (a0 : Int) (a1 : Int) (a2 : List Bool) : Option (Int × List Bool × List Int × Unit) :=
 Option.bind (α := Int × List Bool × List Int × Unit ⊕ Int × List Bool × List Int × Unit) (
  f11.L1 ((a0, a1, (↑(List.length a2) : Int), 0, a1, a2, [], ()))
 ) fun y0 =>
  Sum.elim (fun y1 =>
   some ((y1.fst, y1.snd.fst, y1.snd.snd.fst, ()))
  ) (fun z2 =>
   some (z2)
  ) (y0)
def f11.ins : Shape := ⟨[(0, .c (.ptr 0 0)), (1, .c (.int .i64))], [(0, .box [.own 1, .int .i64]), (1, .arr .bool)]⟩
def f11.outs : List Shape := [⟨[(0, .c (.own 2))], [(0, .box [.own 1, .int .i64]), (1, .arr .bool), (2, .arr (.int .i64))]⟩]
def f11.S : FnSpec := ⟨f11.ins, f11.outs, [0, 1], fun x => f11 x.1 x.2.1 x.2.2.1⟩
def f11.E (fuel : Nat) : Env := ⟨tis, [], [], [(10, ⟨[(0, .c (.ptr 0 0)), (1, .c (.int .i64)), (5, .c (.own 2)), (6, .c (.int .i64)), (15, .c (.int .i64)), (16, .c (.int .i64))], [(0, .box [.own 1, .int .i64]), (1, .arr .bool), (2, .arr (.int .i64))]⟩), (12, ⟨[(5, .c (.own 2))], [(0, .box [.own 1, .int .i64]), (1, .arr .bool), (2, .arr (.int .i64))]⟩)], [(5, ⟨[(0, .c (.ptr 0 0)), (1, .c (.int .i64)), (5, .c (.own 2)), (6, .c (.int .i64)), (15, .c (.int .i64)), (16, .c (.int .i64))], [(0, .box [.own 1, .int .i64]), (1, .arr .bool), (2, .arr (.int .i64))]⟩)], [], 2, [0, 1], fuel⟩
theorem f11.run : ∀ x, runFn (f11.E 100000000000000000000) Go.Proofs.Try.f11 ((Go.Proofs.Try.f11.body).getD .skip) f11.S x = f11.S.f x := by intro x; kernel_rfl
theorem f11.sound : Sound Go.Proofs.Try.prog 11 f11.S := sound_of_run (fun _ => f11.E 100000000000000000000) (by kernel_rfl) (by kernel_rfl) (by kernel_rfl) orders (fun _ => ⟨tis_ok, EqsOk.nil _, FnsOk.nil⟩) (fun _ => rfl) (by kernel_rfl) (by kernel_rfl) (fun x r h => (f11.run x).trans h)
/-! f7: adit/aditlaw12.known -/
def f7 : Option (Bool × Unit) :=
 Option.bind (f9 5) fun y0 =>
  Sum.elim (fun y1 =>
   bif y1.fst != 0 then
    some ((Bool.false, ()))
   else
    some ((Bool.false, ()))
  ) (fun z2 =>
   bif z2.fst != 0 then
    some ((Bool.false, ()))
   else
    Option.bind (f11 3 z2.snd.fst z2.snd.snd.fst) fun y3 =>
     Option.bind (f11 3 y3.fst y3.snd.fst) fun y4 =>
      bif (↑(List.length y3.snd.snd.fst) : Int) == 3 then
       bif inRange 2 (List.length y3.snd.snd.fst) then
        bif List.getD y3.snd.snd.fst 2 0 == 2 then
         bif (↑(List.length y4.snd.snd.fst) : Int) == 3 then
          bif inRange 0 (List.length y4.snd.snd.fst) then
           bif List.getD y4.snd.snd.fst 0 0 == 3 then
            bif inRange 2 (List.length y4.snd.snd.fst) then
             some ((List.getD y4.snd.snd.fst 2 0 == 0, ()))
            else
             none
           else
            some ((Bool.false, ()))
          else
           none
         else
          some ((Bool.false, ()))
        else
         some ((Bool.false, ()))
       else
        none
      else
       some ((Bool.false, ()))
  ) (y0)
def f7.ins : Shape := ⟨[], []⟩
def f7.outs : List Shape := [⟨[(0, .c (.bool))], []⟩]
def f7.S : FnSpec := ⟨f7.ins, f7.outs, [], fun _ => f7⟩
def f7.E (fuel : Nat) : Env := ⟨tis, [(9, f9.S), (11, f11.S)], [], [], [], [], 0, [], fuel⟩
theorem f7.run : ∀ x, runFn (f7.E 100000000000000000000) Go.Proofs.Try.f7 ((Go.Proofs.Try.f7.body).getD .skip) f7.S x = f7.S.f x := by intro x; kernel_rfl
theorem f7.sound : Sound Go.Proofs.Try.prog 7 f7.S := sound_of_run (fun _ => f7.E 100000000000000000000) (by kernel_rfl) (by kernel_rfl) (by kernel_rfl) orders (fun _ => ⟨tis_ok, EqsOk.nil _, (FnsOk.cons f9.sound (FnsOk.cons f11.sound FnsOk.nil))⟩) (fun _ => rfl) (by kernel_rfl) (by kernel_rfl) (fun x r h => (f7.run x).trans h)
/-! f8: adit/aditlaw12.within -/
def f8 (a0 : Int) (a1 : Int) : Option (Int × Unit) :=
 bif Decidable.decide (a1 = 0) then
  none
 else
  Option.bind (α := Int × Unit ⊕ Int × Unit) (
   bif Decidable.decide (Int.tmod a0 a1 < 0) then
    some (Sum.inl (Go.IntKind.wrap Go.IntKind.i64 (Int.tmod a0 a1 + a1), ()))
   else
    some (Sum.inl (Int.tmod a0 a1, ()))
  ) fun y0 =>
   Sum.elim (fun y1 =>
    some ((y1.fst, ()))
   ) (fun z2 =>
    some (z2)
   ) (y0)
def f8.ins : Shape := ⟨[(0, .c (.int .i64)), (1, .c (.int .i64))], []⟩
def f8.outs : List Shape := [⟨[(0, .c (.int .i64))], []⟩]
def f8.S : FnSpec := ⟨f8.ins, f8.outs, [], fun x => f8 x.1 x.2.1⟩
def f8.E (fuel : Nat) : Env := ⟨tis, [], [], [(5, ⟨[(5, .c (.int .i64))], []⟩)], [], [], 0, [], fuel⟩
theorem f8.run : ∀ x, runFn (f8.E 100000000000000000000) Go.Proofs.Try.f8 ((Go.Proofs.Try.f8.body).getD .skip) f8.S x = f8.S.f x := by intro x; kernel_rfl
theorem f8.sound : Sound Go.Proofs.Try.prog 8 f8.S := sound_of_run (fun _ => f8.E 100000000000000000000) (by kernel_rfl) (by kernel_rfl) (by kernel_rfl) orders (fun _ => ⟨tis_ok, EqsOk.nil _, FnsOk.nil⟩) (fun _ => rfl) (by kernel_rfl) (by kernel_rfl) (fun x r h => (f8.run x).trans h)
/-! f10: (*adit/chunk.Sender).Ack -/
def f10.L1 (x : Int × Int × Int × Int × List Bool × Unit) : Option (Int × List Bool × Unit) :=
 it (X := Int × Int × Int × Int × List Bool × Unit) (fun rec x =>
 bif Decidable.decide (x.snd.snd.fst < x.snd.fst) then
  bif inRange x.snd.snd.fst (List.length x.snd.snd.snd.snd.fst) then
   bif List.getD x.snd.snd.snd.snd.fst (Int.toNat x.snd.snd.fst) Bool.false then
    bif inRange x.snd.snd.fst (List.length x.snd.snd.snd.snd.fst) then
     rec (x.fst, x.snd.fst, Go.IntKind.wrap Go.IntKind.i64 (x.snd.snd.fst + 1), x.snd.snd.snd.fst, List.set x.snd.snd.snd.snd.fst (Int.toNat x.snd.snd.fst) Bool.true, ())
    else
     none
   else
    bif Decidable.decide (x.snd.snd.fst < 0) then
     none
    else
     bif inRange x.snd.snd.fst (List.length x.snd.snd.snd.snd.fst) then
      let s0 : List Bool := List.set x.snd.snd.snd.snd.fst (Int.toNat x.snd.snd.fst) (Go.IntKind.wrap Go.IntKind.u32 (↑(BitVec.toNat (BitVec.ofInt (Go.IntKind.bits Go.IntKind.u32) (Int.fdiv x.fst (2 ^ Min.min (Int.toNat x.snd.snd.fst) (Go.IntKind.bits Go.IntKind.u32))) &&& BitVec.ofInt (Go.IntKind.bits Go.IntKind.u32) 1)) : Int) == 1)
      rec (x.fst, x.snd.fst, Go.IntKind.wrap Go.IntKind.i64 (x.snd.snd.fst + 1), x.snd.snd.snd.fst, s0, ())
     else
      none
  else
   none
 else
  some ((x.snd.snd.snd.fst, x.snd.snd.snd.snd.fst, ()))
 ) (100000000000000000000) (x)
def f10 (a0 : Int) (a1 : Int) (a2 : List Bool) : Option (Int × List Bool × Unit) :=
 f10.L1 ((a0, (↑(List.length a2) : Int), 0, a1, a2, ()))
def f10.ins : Shape := ⟨[(0, .c (.ptr 0 0)), (1, .c (.int .u32))], [(0, .box [.own 1, .int .i64]), (1, .arr .bool)]⟩
def f10.outs : List Shape := [⟨[], [(0, .box [.own 1, .int .i64]), (1, .arr .bool)]⟩]
def f10.S : FnSpec := ⟨f10.ins, f10.outs, [0, 1], fun x => f10 x.1 x.2.1 x.2.2.1⟩
def f10.E (fuel : Nat) : Env := ⟨tis, [], [], [], [(2, ⟨[(0, .c (.ptr 0 0)), (1, .c (.int .u32)), (9, .c (.int .i64)), (10, .c (.int .i64))], [(0, .box [.own 1, .int .i64]), (1, .arr .bool)]⟩)], [], 2, [0, 1], fuel⟩
theorem f10.run : ∀ x, runFn (f10.E 100000000000000000000) Go.Proofs.Try.f10 ((Go.Proofs.Try.f10.body).getD .skip) f10.S x = f10.S.f x := by intro x; kernel_rfl
theorem f10.sound : Sound Go.Proofs.Try.prog 10 f10.S := sound_of_run (fun _ => f10.E 100000000000000000000) (by kernel_rfl) (by kernel_rfl) (by kernel_rfl) orders (fun _ => ⟨tis_ok, EqsOk.nil _, FnsOk.nil⟩) (fun _ => rfl) (by kernel_rfl) (by kernel_rfl) (fun x r h => (f10.run x).trans h)
/-! f24: slices.Index[[]bool,bool] -/
def f24.L1 (x : List Bool × Bool × Int × Int × Unit) : Option (Int × Unit) :=
 it (X := List Bool × Bool × Int × Int × Unit) (fun rec x =>
 bif Decidable.decide (x.snd.snd.snd.fst < x.snd.snd.fst) then
  bif inRange x.snd.snd.snd.fst (List.length x.fst) then
   bif x.snd.fst == List.getD x.fst (Int.toNat x.snd.snd.snd.fst) Bool.false then
    some ((x.snd.snd.snd.fst, ()))
   else
    rec (x.fst, x.snd.fst, x.snd.snd.fst, Go.IntKind.wrap Go.IntKind.i64 (x.snd.snd.snd.fst + 1), ())
  else
   none
 else
  some ((-1, ()))
 ) (100000000000000000000) (x)
def f24 (a0 : List Bool) (a1 : Bool) : Option (Int × Unit) :=
 f24.L1 ((a0, a1, (↑(List.length a0) : Int), 0, ()))
def f24.ins : Shape := ⟨[(0, .c (.row .bool)), (1, .c (.bool))], []⟩
def f24.outs : List Shape := [⟨[(0, .c (.int .i64))], []⟩]
def f24.S : FnSpec := ⟨f24.ins, f24.outs, [], fun x => f24 x.1 x.2.1⟩
def f24.E (fuel : Nat) : Env := ⟨tis, [], [], [], [(3, ⟨[(0, .c (.row .bool)), (1, .c (.bool)), (7, .c (.int .i64)), (8, .c (.int .i64))], []⟩)], [], 0, [], fuel⟩
theorem f24.run : ∀ x, runFn (f24.E 100000000000000000000) Go.Proofs.Try.f24 ((Go.Proofs.Try.f24.body).getD .skip) f24.S x = f24.S.f x := by intro x; kernel_rfl
theorem f24.sound : Sound Go.Proofs.Try.prog 24 f24.S := sound_of_run (fun _ => f24.E 100000000000000000000) (by kernel_rfl) (by kernel_rfl) (by kernel_rfl) orders (fun _ => ⟨tis_ok, EqsOk.nil _, FnsOk.nil⟩) (fun _ => rfl) (by kernel_rfl) (by kernel_rfl) (fun x r h => (f24.run x).trans h)
/-! f21: slices.Contains[[]bool,bool] -/
def f21 (a0 : List Bool) (a1 : Bool) : Option (Bool × Unit) :=
 Option.bind (f24 a0 a1) fun y0 =>
  some ((Decidable.decide (y0.fst ≥ 0), ()))
def f21.ins : Shape := ⟨[(0, .c (.row .bool)), (1, .c (.bool))], []⟩
def f21.outs : List Shape := [⟨[(0, .c (.bool))], []⟩]
def f21.S : FnSpec := ⟨f21.ins, f21.outs, [], fun x => f21 x.1 x.2.1⟩
def f21.E (fuel : Nat) : Env := ⟨tis, [(24, f24.S)], [], [], [], [], 0, [], fuel⟩
theorem f21.run : ∀ x, runFn (f21.E 100000000000000000000) Go.Proofs.Try.f21 ((Go.Proofs.Try.f21.body).getD .skip) f21.S x = f21.S.f x := by intro x; kernel_rfl
theorem f21.sound : Sound Go.Proofs.Try.prog 21 f21.S := sound_of_run (fun _ => f21.E 100000000000000000000) (by kernel_rfl) (by kernel_rfl) (by kernel_rfl) orders (fun _ => ⟨tis_ok, EqsOk.nil _, (FnsOk.cons f24.sound FnsOk.nil)⟩) (fun _ => rfl) (by kernel_rfl) (by kernel_rfl) (fun x r h => (f21.run x).trans h)
/-! f12: (*adit/chunk.Sender).Done -/
def f12 (a0 : List Bool × Int) : Option (Bool × Unit) :=
 Option.bind (f21 a0.fst Bool.false) fun y0 =>
  some ((!y0.fst, ()))
def f12.ins : Shape := ⟨[(0, .c (.bptr (.prod (.row .bool) (.int .i64))))], []⟩
def f12.outs : List Shape := [⟨[(0, .c (.bool))], []⟩]
def f12.S : FnSpec := ⟨f12.ins, f12.outs, [], fun x => f12 x.1⟩
def f12.E (fuel : Nat) : Env := ⟨tis, [(21, f21.S)], [], [], [], [], 0, [], fuel⟩
theorem f12.run : ∀ x, runFn (f12.E 100000000000000000000) Go.Proofs.Try.f12 ((Go.Proofs.Try.f12.body).getD .skip) f12.S x = f12.S.f x := by intro x; kernel_rfl
theorem f12.sound : Sound Go.Proofs.Try.prog 12 f12.S := sound_of_run (fun _ => f12.E 100000000000000000000) (by kernel_rfl) (by kernel_rfl) (by kernel_rfl) orders (fun _ => ⟨tis_ok, EqsOk.nil _, (FnsOk.cons f21.sound FnsOk.nil)⟩) (fun _ => rfl) (by kernel_rfl) (by kernel_rfl) (fun x r h => (f12.run x).trans h)
/-! f3: adit/aditlaw12.ChunkRounds -/
def f3.L1 (k0 : Int × Int × Int × Int × Int × Int × List Int × List Bool × Unit → Option (Bool × Unit)) (x : Int × Int × Int × Int × Int × Int × Int × List Int × List Int × List Bool × Unit) : Option (Bool × Unit) :=
 it (X := Int × Int × Int × Int × Int × Int × Int × List Int × List Int × List Bool × Unit) (fun rec x =>
 bif Decidable.decide (x.snd.snd.snd.snd.snd.fst < (↑(List.length x.snd.snd.snd.snd.snd.snd.snd.snd.fst) : Int)) then
  bif inRange x.snd.snd.snd.snd.snd.fst (List.length x.snd.snd.snd.snd.snd.snd.snd.snd.fst) then
   bif inRange (List.getD x.snd.snd.snd.snd.snd.snd.snd.snd.fst (Int.toNat x.snd.snd.snd.snd.snd.fst) 0) (List.length x.snd.snd.snd.snd.snd.snd.snd.fst) then
    bif inRange (List.getD x.snd.snd.snd.snd.snd.snd.snd.snd.fst (Int.toNat x.snd.snd.snd.snd.snd.fst) 0) (List.length x.snd.snd.snd.snd.snd.snd.snd.fst) then
     let s0 : List Int := List.set x.snd.snd.snd.snd.snd.snd.snd.fst (Int.toNat (List.getD x.snd.snd.snd.snd.snd.snd.snd.snd.fst (Int.toNat x.snd.snd.snd.snd.snd.fst) 0)) (Go.IntKind.wrap Go.IntKind.i64 (List.getD x.snd.snd.snd.snd.snd.snd.snd.fst (Int.toNat (List.getD x.snd.snd.snd.snd.snd.snd.snd.snd.fst (Int.toNat x.snd.snd.snd.snd.snd.fst) 0)) 0 + 1))
     rec (x.fst, x.snd.fst, x.snd.snd.fst, x.snd.snd.snd.fst, x.snd.snd.snd.snd.fst, Go.IntKind.wrap Go.IntKind.i64 (x.snd.snd.snd.snd.snd.fst + 1), x.snd.snd.snd.snd.snd.snd.fst, s0, x.snd.snd.snd.snd.snd.snd.snd.snd.fst, x.snd.snd.snd.snd.snd.snd.snd.snd.snd.fst, ())
    else
     none
   else
    none
  else
   none
 else
  bif (↑(List.length x.snd.snd.snd.snd.snd.snd.snd.snd.fst) : Int) != minI x.snd.fst x.snd.snd.snd.fst then
   some ((Bool.false, ()))
  else
   k0 (x.fst, x.snd.fst, x.snd.snd.fst, x.snd.snd.snd.fst, Go.IntKind.wrap Go.IntKind.i64 (x.snd.snd.snd.snd.fst + 1), x.snd.snd.snd.snd.snd.snd.fst, x.snd.snd.snd.snd.snd.snd.snd.fst, x.snd.snd.snd.snd.snd.snd.snd.snd.snd.fst, ())
 ) (100000000000000000000) (x)
def f3.L2 (x : Int × Int × Int × Int × Int × Int × List Int × List Bool × Unit) : Option (Bool × Unit) :=
 it (X := Int × Int × Int × Int × Int × Int × List Int × List Bool × Unit) (fun rec x =>
 bif Decidable.decide (x.snd.snd.snd.snd.fst < x.fst) then
  bif Decidable.decide (x.snd.snd.snd.snd.fst < 0) then
   none
  else
   bif Go.IntKind.wrap Go.IntKind.u32 (↑(BitVec.toNat (BitVec.ofInt (Go.IntKind.bits Go.IntKind.u32) (Int.fdiv x.snd.snd.fst (2 ^ Min.min (Int.toNat x.snd.snd.snd.snd.fst) (Go.IntKind.bits Go.IntKind.u32))) &&& BitVec.ofInt (Go.IntKind.bits Go.IntKind.u32) 1)) : Int) == 1 then
    bif inRange x.snd.snd.snd.snd.fst (List.length x.snd.snd.snd.snd.snd.snd.fst) then
     bif Decidable.decide (List.getD x.snd.snd.snd.snd.snd.snd.fst (Int.toNat x.snd.snd.snd.snd.fst) 0 > 0) then
      some ((Bool.false, ()))
     else
      bif !Go.IntKind.wrap Go.IntKind.u32 (↑(BitVec.toNat (BitVec.ofInt (Go.IntKind.bits Go.IntKind.u32) (Int.fdiv x.snd.snd.fst (2 ^ Min.min (Int.toNat x.snd.snd.snd.snd.fst) (Go.IntKind.bits Go.IntKind.u32))) &&& BitVec.ofInt (Go.IntKind.bits Go.IntKind.u32) 1)) : Int) == 1 then
       bif inRange x.snd.snd.snd.snd.fst (List.length x.snd.snd.snd.snd.snd.snd.fst) then
        bif Decidable.decide (List.getD x.snd.snd.snd.snd.snd.snd.fst (Int.toNat x.snd.snd.snd.snd.fst) 0 < 1) then
         some ((Bool.false, ()))
        else
         bif inRange x.snd.snd.snd.snd.fst (List.length x.snd.snd.snd.snd.snd.snd.fst) then
          bif Decidable.decide (List.getD x.snd.snd.snd.snd.snd.snd.fst (Int.toNat x.snd.snd.snd.snd.fst) 0 > 2) then
           some ((Bool.false, ()))
          else
           rec (x.fst, x.snd.fst, x.snd.snd.fst, x.snd.snd.snd.fst, Go.IntKind.wrap Go.IntKind.i64 (x.snd.snd.snd.snd.fst + 1), x.snd.snd.snd.snd.snd.fst, x.snd.snd.snd.snd.snd.snd.fst, x.snd.snd.snd.snd.snd.snd.snd.fst, ())
         else
          none
       else
        none
      else
       rec (x.fst, x.snd.fst, x.snd.snd.fst, x.snd.snd.snd.fst, Go.IntKind.wrap Go.IntKind.i64 (x.snd.snd.snd.snd.fst + 1), x.snd.snd.snd.snd.snd.fst, x.snd.snd.snd.snd.snd.snd.fst, x.snd.snd.snd.snd.snd.snd.snd.fst, ())
    else
     none
   else
    bif !Go.IntKind.wrap Go.IntKind.u32 (↑(BitVec.toNat (BitVec.ofInt (Go.IntKind.bits Go.IntKind.u32) (Int.fdiv x.snd.snd.fst (2 ^ Min.min (Int.toNat x.snd.snd.snd.snd.fst) (Go.IntKind.bits Go.IntKind.u32))) &&& BitVec.ofInt (Go.IntKind.bits Go.IntKind.u32) 1)) : Int) == 1 then
     bif inRange x.snd.snd.snd.snd.fst (List.length x.snd.snd.snd.snd.snd.snd.fst) then
      bif Decidable.decide (List.getD x.snd.snd.snd.snd.snd.snd.fst (Int.toNat x.snd.snd.snd.snd.fst) 0 < 1) then
       some ((Bool.false, ()))
      else
       bif inRange x.snd.snd.snd.snd.fst (List.length x.snd.snd.snd.snd.snd.snd.fst) then
        bif Decidable.decide (List.getD x.snd.snd.snd.snd.snd.snd.fst (Int.toNat x.snd.snd.snd.snd.fst) 0 > 2) then
         some ((Bool.false, ()))
        else
         rec (x.fst, x.snd.fst, x.snd.snd.fst, x.snd.snd.snd.fst, Go.IntKind.wrap Go.IntKind.i64 (x.snd.snd.snd.snd.fst + 1), x.snd.snd.snd.snd.snd.fst, x.snd.snd.snd.snd.snd.snd.fst, x.snd.snd.snd.snd.snd.snd.snd.fst, ())
       else
        none
     else
      none
    else
     rec (x.fst, x.snd.fst, x.snd.snd.fst, x.snd.snd.snd.fst, Go.IntKind.wrap Go.IntKind.i64 (x.snd.snd.snd.snd.fst + 1), x.snd.snd.snd.snd.snd.fst, x.snd.snd.snd.snd.snd.snd.fst, x.snd.snd.snd.snd.snd.snd.snd.fst, ())
 else
  Option.bind (f12 (x.snd.snd.snd.snd.snd.snd.snd.fst, x.snd.snd.snd.snd.snd.fst)) fun y0 =>
   bif y0.fst == (x.snd.snd.snd.fst == 0) then
    bif Decidable.decide (x.snd.snd.snd.fst > 0) then
     some ((Bool.true, ()))
    else
     Option.bind (f11 x.snd.fst x.snd.snd.snd.snd.snd.fst x.snd.snd.snd.snd.snd.snd.snd.fst) fun y1 =>
      some (((↑(List.length y1.snd.snd.fst) : Int) == 0, ()))
   else
    some ((Bool.false, ()))
 ) (100000000000000000000) (x)
def f3.L3 (x : Int × Int × Int × Int × Int × Int × List Int × List Bool × Unit) : Option (Bool × Unit) :=
 it (X := Int × Int × Int × Int × Int × Int × List Int × List Bool × Unit) (fun rec x =>
 bif Decidable.decide (Go.IntKind.wrap Go.IntKind.i64 (x.snd.snd.snd.snd.fst * x.snd.fst) < x.snd.snd.snd.fst) then
  Option.bind (f11 x.snd.fst x.snd.snd.snd.snd.snd.fst x.snd.snd.snd.snd.snd.snd.snd.fst) fun y0 =>
   f3.L1 rec ((x.fst, x.snd.fst, x.snd.snd.fst, x.snd.snd.snd.fst, x.snd.snd.snd.snd.fst, 0, y0.fst, x.snd.snd.snd.snd.snd.snd.fst, y0.snd.snd.fst, y0.snd.fst, ()))
 else
  f3.L2 ((x.fst, x.snd.fst, x.snd.snd.fst, x.snd.snd.snd.fst, 0, x.snd.snd.snd.snd.snd.fst, x.snd.snd.snd.snd.snd.snd.fst, x.snd.snd.snd.snd.snd.snd.snd.fst, ()))
 ) (100000000000000000000) (x)
def f3.L4 (x : Int × Int × Int × Int × Int × Int × List Int × List Bool × Unit) : Option (Bool × Unit) :=
 it (X := Int × Int × Int × Int × Int × Int × List Int × List Bool × Unit) (fun rec x =>
 bif Decidable.decide (x.snd.snd.snd.snd.fst < x.fst) then
  bif Decidable.decide (x.snd.snd.snd.snd.fst < 0) then
   none
  else
   bif Go.IntKind.wrap Go.IntKind.u32 (↑(BitVec.toNat (BitVec.ofInt (Go.IntKind.bits Go.IntKind.u32) (Int.fdiv x.snd.snd.fst (2 ^ Min.min (Int.toNat x.snd.snd.snd.snd.fst) (Go.IntKind.bits Go.IntKind.u32))) &&& BitVec.ofInt (Go.IntKind.bits Go.IntKind.u32) 1)) : Int) == 0 then
    rec (x.fst, x.snd.fst, x.snd.snd.fst, Go.IntKind.wrap Go.IntKind.i64 (x.snd.snd.snd.fst + 1), Go.IntKind.wrap Go.IntKind.i64 (x.snd.snd.snd.snd.fst + 1), x.snd.snd.snd.snd.snd.fst, x.snd.snd.snd.snd.snd.snd.fst, x.snd.snd.snd.snd.snd.snd.snd.fst, ())
   else
    rec (x.fst, x.snd.fst, x.snd.snd.fst, x.snd.snd.snd.fst, Go.IntKind.wrap Go.IntKind.i64 (x.snd.snd.snd.snd.fst + 1), x.snd.snd.snd.snd.snd.fst, x.snd.snd.snd.snd.snd.snd.fst, x.snd.snd.snd.snd.snd.snd.snd.fst, ())
 else
  f3.L3 ((x.fst, x.snd.fst, x.snd.snd.fst, x.snd.snd.snd.fst, 0, x.snd.snd.snd.snd.snd.fst, x.snd.snd.snd.snd.snd.snd.fst, x.snd.snd.snd.snd.snd.snd.snd.fst, ()))
 ) (100000000000000000000) (x)
def f3 (a0 : Int) (a1 : Int) (a2 : Int) : Option (Bool × Unit) :=
 Option.bind (f7) fun y0 =>
  bif !y0.fst then
   some ((Bool.false, ()))
  else
   Option.bind (f8 a0 16) fun y1 =>
    Option.bind (f8 a1 8) fun y2 =>
     Option.bind (f9 (Go.IntKind.wrap Go.IntKind.i64 (1 + y1.fst))) fun y3 =>
      Sum.elim (fun y4 =>
       bif y4.fst != 0 then
        some ((Bool.false, ()))
       else
        none
      ) (fun z5 =>
       bif z5.fst != 0 then
        some ((Bool.false, ()))
       else
        Option.bind (f10 a2 z5.snd.fst z5.snd.snd.fst) fun y6 =>
         bif Decidable.decide (0 ≤ Go.IntKind.wrap Go.IntKind.i64 (1 + y1.fst) ∧ Go.IntKind.wrap Go.IntKind.i64 (1 + y1.fst) ≤ Go.IntKind.wrap Go.IntKind.i64 (1 + y1.fst) ∧ Go.IntKind.wrap Go.IntKind.i64 (1 + y1.fst) ≤ (↑(limit 8) : Int)) then
          f3.L4 ((Go.IntKind.wrap Go.IntKind.i64 (1 + y1.fst), Go.IntKind.wrap Go.IntKind.i64 (1 + y2.fst), a2, 0, 0, y6.fst, List.replicate (Int.toNat (Go.IntKind.wrap Go.IntKind.i64 (1 + y1.fst))) 0, y6.snd.fst, ()))
         else
          none
      ) (y3)
def f3.ins : Shape := ⟨[(0, .c (.int .i64)), (1, .c (.int .i64)), (2, .c (.int .u32))], []⟩
def f3.outs : List Shape := [⟨[(0, .c (.bool))], []⟩]
def f3.S : FnSpec := ⟨f3.ins, f3.outs, [], fun x => f3 x.1 x.2.1 x.2.2.1⟩
def f3.E (fuel : Nat) : Env := ⟨tis, [(9, f9.S), (11, f11.S), (7, f7.S), (8, f8.S), (10, f10.S), (12, f12.S)], [], [], [(12, ⟨[(0, .c (.int .i64)), (1, .c (.int .i64)), (2, .c (.int .u32)), (7, .c (.ptr 0 0)), (9, .c (.own 1)), (10, .c (.int .i64)), (11, .c (.int .i64))], [(0, .box [.own 2, .int .i64]), (1, .arr (.int .i64)), (2, .arr .bool)]⟩), (17, ⟨[(0, .c (.int .i64)), (1, .c (.int .i64)), (2, .c (.int .u32)), (7, .c (.ptr 0 0)), (9, .c (.own 1)), (10, .c (.int .i64)), (12, .c (.int .i64))], [(0, .box [.own 2, .int .i64]), (1, .arr (.int .i64)), (2, .arr .bool)]⟩), (21, ⟨[(0, .c (.int .i64)), (1, .c (.int .i64)), (2, .c (.int .u32)), (7, .c (.ptr 0 0)), (9, .c (.own 1)), (10, .c (.int .i64)), (12, .c (.int .i64)), (13, .c (.own 2)), (14, .c (.int .i64))], [(0, .box [.own 3, .int .i64]), (1, .arr (.int .i64)), (2, .arr (.int .i64)), (3, .arr .bool)]⟩), (27, ⟨[(0, .c (.int .i64)), (1, .c (.int .i64)), (2, .c (.int .u32)), (7, .c (.ptr 0 0)), (9, .c (.own 1)), (10, .c (.int .i64)), (15, .c (.int .i64))], [(0, .box [.own 2, .int .i64]), (1, .arr (.int .i64)), (2, .arr .bool)]⟩)], [], 0, [], fuel⟩
theorem f3.run : ∀ x, runFn (f3.E 100000000000000000000) Go.Proofs.Try.f3 ((Go.Proofs.Try.f3.body).getD .skip) f3.S x = f3.S.f x := by intro x; kernel_rfl
theorem f3.sound : Sound Go.Proofs.Try.prog 3 f3.S := sound_of_run (fun _ => f3.E 100000000000000000000) (by kernel_rfl) (by kernel_rfl) (by kernel_rfl) orders (fun _ => ⟨tis_ok, EqsOk.nil _, (FnsOk.cons f9.sound (FnsOk.cons f11.sound (FnsOk.cons f7.sound (FnsOk.cons f8.sound (FnsOk.cons f10.sound (FnsOk.cons f12.sound FnsOk.nil))))))⟩) (fun _ => rfl) (by kernel_rfl) (by kernel_rfl) (fun x r h => (f3.run x).trans h)
end
end Go.Proofs.Ytjgodjdojifpoaa.Run

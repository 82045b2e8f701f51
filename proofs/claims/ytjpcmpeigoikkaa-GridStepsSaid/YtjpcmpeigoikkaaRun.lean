/- Functions of the program as Lean functions: printed by a tool of this session (own work). -/
import Derived.Test.YtjpcmpeigoikkaaProg
import Derived.Test.YtjpcmpeigoikkaaMxW
namespace Go.Proofs.Ytjpcmpeigoikkaa.Run
open Go Go.Proofs.Ytjpcmpeigoikkaa.Mx
set_option autoImplicit false
set_option linter.unusedVariables false
set_option maxRecDepth 100000
noncomputable section
def ty3 : TI := ⟨.int .i64, 1, 8, [.int .i64 0], some (.int .i64)⟩
def ty4 : TI := ⟨.bool, 1, 1, [.bool false], some .bool⟩
def ty5 : TI := ⟨.int .u8, 1, 1, [.int .u8 0], some (.int .u8)⟩
def ty24 : TI := ⟨.slice 3, 1, 24, [.nils], some (.row (.int .i64))⟩
def ty28 : TI := ⟨.slice 5, 1, 24, [.nils], some (.row (.int .u8))⟩
def ty31 : TI := ⟨.slice 4, 1, 24, [.nils], some (.row .bool)⟩
def ty40 : TI := ⟨.arr 4 3, 4, 32, [.int .i64 0, .int .i64 0, .int .i64 0, .int .i64 0], some (.prod (.int .i64) (.prod (.int .i64) (.prod (.int .i64) (.int .i64))))⟩
def tis : List (Nat × TI) := [(3, ty3), (4, ty4), (5, ty5), (24, ty24), (28, ty28), (31, ty31), (40, ty40)]
theorem ty3_ok : TIok Go.Proofs.Try.prog 3 ty3 := ⟨by kernel_rfl, by kernel_rfl, by kernel_rfl, by kernel_rfl, by kernel_rfl, by kernel_rfl, by kernel_rfl, by kernel_rfl⟩
theorem ty4_ok : TIok Go.Proofs.Try.prog 4 ty4 := ⟨by kernel_rfl, by kernel_rfl, by kernel_rfl, by kernel_rfl, by kernel_rfl, by kernel_rfl, by kernel_rfl, by kernel_rfl⟩
theorem ty5_ok : TIok Go.Proofs.Try.prog 5 ty5 := ⟨by kernel_rfl, by kernel_rfl, by kernel_rfl, by kernel_rfl, by kernel_rfl, by kernel_rfl, by kernel_rfl, by kernel_rfl⟩
theorem ty24_ok : TIok Go.Proofs.Try.prog 24 ty24 := ⟨by kernel_rfl, by kernel_rfl, by kernel_rfl, by kernel_rfl, by kernel_rfl, by kernel_rfl, by kernel_rfl, by kernel_rfl⟩
theorem ty28_ok : TIok Go.Proofs.Try.prog 28 ty28 := ⟨by kernel_rfl, by kernel_rfl, by kernel_rfl, by kernel_rfl, by kernel_rfl, by kernel_rfl, by kernel_rfl, by kernel_rfl⟩
theorem ty31_ok : TIok Go.Proofs.Try.prog 31 ty31 := ⟨by kernel_rfl, by kernel_rfl, by kernel_rfl, by kernel_rfl, by kernel_rfl, by kernel_rfl, by kernel_rfl, by kernel_rfl⟩
theorem ty40_ok : TIok Go.Proofs.Try.prog 40 ty40 := ⟨by kernel_rfl, by kernel_rfl, by kernel_rfl, by kernel_rfl, by kernel_rfl, by kernel_rfl, by kernel_rfl, by kernel_rfl⟩
theorem tis_ok : TIs Go.Proofs.Try.prog tis := (TIs.cons ty3_ok (TIs.cons ty4_ok (TIs.cons ty5_ok (TIs.cons ty24_ok (TIs.cons ty28_ok (TIs.cons ty31_ok (TIs.cons ty40_ok (TIs.nil _))))))))
theorem orders : Go.Proofs.Try.prog.follows .mixedOrders = true := by kernel_rfl
/-! f22: adit/grid.place -/
def f22 (a0 : Int) (a1 : Int) : Option (Int × Unit) :=
 bif Decidable.decide (a0 < 0) then
  some ((-1, ()))
 else
  bif Decidable.decide (a0 ≥ 24) then
   some ((-1, ()))
  else
   bif Decidable.decide (a1 < 0) then
    some ((-1, ()))
   else
    bif Decidable.decide (a1 ≥ 16) then
     some ((-1, ()))
    else
     some ((Go.IntKind.wrap Go.IntKind.i64 (Go.IntKind.wrap Go.IntKind.i64 (a1 * 24) + a0), ()))
def f22.ins : Shape := ⟨[(0, .c (.int .i64)), (1, .c (.int .i64))], []⟩
def f22.outs : List Shape := [⟨[(0, .c (.int .i64))], []⟩]
def f22.S : FnSpec := ⟨f22.ins, f22.outs, [], fun x => f22 x.1 x.2.1⟩
def f22.E (fuel : Nat) : Env := ⟨tis, [], [], [], [], [], 0, [], fuel⟩
theorem f22.run : ∀ x, runFn (f22.E 100000000000000000000) Go.Proofs.Try.f22 ((Go.Proofs.Try.f22.body).getD .skip) f22.S x = f22.S.f x := by intro x; kernel_rfl
theorem f22.sound : Sound Go.Proofs.Try.prog 22 f22.S := sound_of_run (fun _ => f22.E 100000000000000000000) (by kernel_rfl) (by kernel_rfl) (by kernel_rfl) orders (fun _ => ⟨tis_ok, EqsOk.nil _, FnsOk.nil⟩) (fun _ => rfl) (by kernel_rfl) (by kernel_rfl) (fun x r h => (f22.run x).trans h)
/-! f23: adit/grid.near -/
def f23 (a0 : Int) (a1 : Int) : Option (Int × Unit) :=
 bif Decidable.decide (Go.IntKind.wrap Go.IntKind.i64 (2 * a1) = 0) then
  none
 else
  Option.bind (α := Int × Unit ⊕ Int × Unit) (
   bif Decidable.decide (Go.IntKind.wrap Go.IntKind.i64 (2 * a1) = 0) then
    none
   else
    bif Decidable.decide (Int.tmod (Go.IntKind.wrap Go.IntKind.i64 (Go.IntKind.wrap Go.IntKind.i64 (2 * a0) + a1)) (Go.IntKind.wrap Go.IntKind.i64 (2 * a1)) < 0) then
     some (Sum.inl (Go.IntKind.wrap Go.IntKind.i64 (Go.IntKind.wrap Go.IntKind.i64 (Int.tdiv (Go.IntKind.wrap Go.IntKind.i64 (Go.IntKind.wrap Go.IntKind.i64 (2 * a0) + a1)) (Go.IntKind.wrap Go.IntKind.i64 (2 * a1))) - 1), ()))
    else
     some (Sum.inl (Go.IntKind.wrap Go.IntKind.i64 (Int.tdiv (Go.IntKind.wrap Go.IntKind.i64 (Go.IntKind.wrap Go.IntKind.i64 (2 * a0) + a1)) (Go.IntKind.wrap Go.IntKind.i64 (2 * a1))), ()))
  ) fun y0 =>
   Sum.elim (fun y1 =>
    some ((y1.fst, ()))
   ) (fun z2 =>
    some (z2)
   ) (y0)
def f23.ins : Shape := ⟨[(0, .c (.int .i64)), (1, .c (.int .i64))], []⟩
def f23.outs : List Shape := [⟨[(0, .c (.int .i64))], []⟩]
def f23.S : FnSpec := ⟨f23.ins, f23.outs, [], fun x => f23 x.1 x.2.1⟩
def f23.E (fuel : Nat) : Env := ⟨tis, [], [], [(5, ⟨[(5, .c (.int .i64))], []⟩)], [], [], 0, [], fuel⟩
theorem f23.run : ∀ x, runFn (f23.E 100000000000000000000) Go.Proofs.Try.f23 ((Go.Proofs.Try.f23.body).getD .skip) f23.S x = f23.S.f x := by intro x; kernel_rfl
theorem f23.sound : Sound Go.Proofs.Try.prog 23 f23.S := sound_of_run (fun _ => f23.E 100000000000000000000) (by kernel_rfl) (by kernel_rfl) (by kernel_rfl) orders (fun _ => ⟨tis_ok, EqsOk.nil _, FnsOk.nil⟩) (fun _ => rfl) (by kernel_rfl) (by kernel_rfl) (fun x r h => (f23.run x).trans h)
/-! f11: adit/grid.Line -/
def f11.L1 (x : Int × Int × Int × Int × Int × Int × List Int × Unit) : Option (List Int × Unit) :=
 it (X := Int × Int × Int × Int × Int × Int × List Int × Unit) (fun rec x =>
 bif Decidable.decide (x.snd.snd.snd.snd.snd.fst ≤ x.snd.snd.snd.snd.fst) then
  Option.bind (f23 (Go.IntKind.wrap Go.IntKind.i64 (x.snd.snd.snd.snd.snd.fst * Go.IntKind.wrap Go.IntKind.i64 (x.snd.snd.fst - x.fst))) x.snd.snd.snd.snd.fst) fun y0 =>
   Option.bind (f23 (Go.IntKind.wrap Go.IntKind.i64 (x.snd.snd.snd.snd.snd.fst * Go.IntKind.wrap Go.IntKind.i64 (x.snd.snd.snd.fst - x.snd.fst))) x.snd.snd.snd.snd.fst) fun y1 =>
    Option.bind (f22 (Go.IntKind.wrap Go.IntKind.i64 (x.fst + y0.fst)) (Go.IntKind.wrap Go.IntKind.i64 (x.snd.fst + y1.fst))) fun y2 =>
     bif Decidable.decide (List.length x.snd.snd.snd.snd.snd.snd.fst + List.length [y2.fst] ≤ limit 8) then
      rec (x.fst, x.snd.fst, x.snd.snd.fst, x.snd.snd.snd.fst, x.snd.snd.snd.snd.fst, Go.IntKind.wrap Go.IntKind.i64 (x.snd.snd.snd.snd.snd.fst + 1), x.snd.snd.snd.snd.snd.snd.fst ++ [y2.fst], ())
     else
      none
 else
  some ((x.snd.snd.snd.snd.snd.snd.fst, ()))
 ) (100000000000000000000) (x)
def f11 (a0 : Int) (a1 : Int) (a2 : Int) (a3 : Int) : Option (List Int × Unit) :=
 Option.bind (f22 a0 a1) fun y0 =>
  bif Decidable.decide (y0.fst < 0) then
   some (([], ()))
  else
   Option.bind (f22 a2 a3) fun y1 =>
    bif Decidable.decide (y1.fst < 0) then
     some (([], ()))
    else
     Option.bind (f22 a0 a1) fun y2 =>
      f11.L1 ((a0, a1, a2, a3, maxI (maxI (maxI (Go.IntKind.wrap Go.IntKind.i64 (a2 - a0)) (Go.IntKind.wrap Go.IntKind.i64 (a0 - a2))) (Go.IntKind.wrap Go.IntKind.i64 (a3 - a1))) (Go.IntKind.wrap Go.IntKind.i64 (a1 - a3)), 1, [y2.fst], ()))
def f11.ins : Shape := ⟨[(0, .c (.int .i64)), (1, .c (.int .i64)), (2, .c (.int .i64)), (3, .c (.int .i64))], []⟩
def f11.outs : List Shape := [⟨[(0, .c (.own 0))], [(0, .arr (.int .i64))]⟩]
def f11.S : FnSpec := ⟨f11.ins, f11.outs, [], fun x => f11 x.1 x.2.1 x.2.2.1 x.2.2.2.1⟩
def f11.E (fuel : Nat) : Env := ⟨tis, [(22, f22.S), (23, f23.S)], [], [], [(7, ⟨[(0, .c (.int .i64)), (1, .c (.int .i64)), (2, .c (.int .i64)), (3, .c (.int .i64)), (9, .c (.int .i64)), (10, .c (.own 0)), (11, .c (.int .i64))], [(0, .arr (.int .i64))]⟩)], [], 0, [], fuel⟩
theorem f11.run : ∀ x, runFn (f11.E 100000000000000000000) Go.Proofs.Try.f11 ((Go.Proofs.Try.f11.body).getD .skip) f11.S x = f11.S.f x := by intro x; kernel_rfl
theorem f11.sound : Sound Go.Proofs.Try.prog 11 f11.S := sound_of_run (fun _ => f11.E 100000000000000000000) (by kernel_rfl) (by kernel_rfl) (by kernel_rfl) orders (fun _ => ⟨tis_ok, EqsOk.nil _, (FnsOk.cons f22.sound (FnsOk.cons f23.sound FnsOk.nil))⟩) (fun _ => rfl) (by kernel_rfl) (by kernel_rfl) (fun x r h => (f11.run x).trans h)
/-! f9: adit/aditlaw3.known -/
def f9 : Option (Bool × Unit) :=
 Option.bind (f11 0 0 2 1) fun y0 =>
  bif (↑(List.length y0.fst) : Int) == 3 then
   bif inRange 0 (List.length y0.fst) then
    bif List.getD y0.fst (Int.toNat 0) 0 == 0 then
     bif inRange 1 (List.length y0.fst) then
      bif List.getD y0.fst (Int.toNat 1) 0 == 25 then
       bif inRange 2 (List.length y0.fst) then
        some ((List.getD y0.fst (Int.toNat 2) 0 == 26, ()))
       else
        none
      else
       some ((Bool.false, ()))
     else
      none
    else
     some ((Bool.false, ()))
   else
    none
  else
   some ((Bool.false, ()))
def f9.ins : Shape := ⟨[], []⟩
def f9.outs : List Shape := [⟨[(0, .c (.bool))], []⟩]
def f9.S : FnSpec := ⟨f9.ins, f9.outs, [], fun _ => f9⟩
def f9.E (fuel : Nat) : Env := ⟨tis, [(11, f11.S)], [], [], [], [], 0, [], fuel⟩
theorem f9.run : ∀ x, runFn (f9.E 100000000000000000000) Go.Proofs.Try.f9 ((Go.Proofs.Try.f9.body).getD .skip) f9.S x = f9.S.f x := by intro x; kernel_rfl
theorem f9.sound : Sound Go.Proofs.Try.prog 9 f9.S := sound_of_run (fun _ => f9.E 100000000000000000000) (by kernel_rfl) (by kernel_rfl) (by kernel_rfl) orders (fun _ => ⟨tis_ok, EqsOk.nil _, (FnsOk.cons f11.sound FnsOk.nil)⟩) (fun _ => rfl) (by kernel_rfl) (by kernel_rfl) (fun x r h => (f9.run x).trans h)
/-! f14: adit/aditlaw3.full -/
def f14.L1 (x : List Int × Int × List Int × Unit) : Option (List Int × Unit ⊕ List Int × Unit) :=
 it (X := List Int × Int × List Int × Unit) (fun rec x =>
 bif Decidable.decide (x.snd.fst < 384) then
  bif Decidable.decide ((↑(List.length x.fst) : Int) > 0) then
   bif Decidable.decide ((↑(List.length x.fst) : Int) = 0) then
    none
   else
    bif inRange (Int.tmod (Go.IntKind.wrap Go.IntKind.i64 (Go.IntKind.wrap Go.IntKind.i64 (x.snd.fst * 7) + Go.IntKind.wrap Go.IntKind.i64 (Int.tdiv x.snd.fst 9))) (↑(List.length x.fst) : Int)) (List.length x.fst) then
     bif inRange x.snd.fst (List.length x.snd.snd.fst) then
      rec (x.fst, Go.IntKind.wrap Go.IntKind.i64 (x.snd.fst + 1), List.set x.snd.snd.fst (Int.toNat x.snd.fst) (Int.tmod (List.getD x.fst (Int.toNat (Int.tmod (Go.IntKind.wrap Go.IntKind.i64 (Go.IntKind.wrap Go.IntKind.i64 (x.snd.fst * 7) + Go.IntKind.wrap Go.IntKind.i64 (Int.tdiv x.snd.fst 9))) (↑(List.length x.fst) : Int))) 0) 7), ())
     else
      none
    else
     none
  else
   some (Sum.inl (x.snd.snd.fst, ()))
 else
  some (Sum.inl (x.snd.snd.fst, ()))
 ) (100000000000000000000) (x)
def f14 (a0 : List Int) : Option (List Int × Unit) :=
 Option.bind (α := List Int × Unit ⊕ List Int × Unit) (
  f14.L1 ((a0, 0, List.replicate (Int.toNat 384) 0, ()))
 ) fun y0 =>
  Sum.elim (fun y1 =>
   some ((y1.fst, ()))
  ) (fun z2 =>
   some (z2)
  ) (y0)
def f14.ins : Shape := ⟨[(0, .c (.row (.int .u8)))], []⟩
def f14.outs : List Shape := [⟨[(0, .c (.own 0))], [(0, .arr (.int .u8))]⟩]
def f14.S : FnSpec := ⟨f14.ins, f14.outs, [], fun x => f14 x.1⟩
def f14.E (fuel : Nat) : Env := ⟨tis, [], [], [(7, ⟨[(3, .c (.own 0))], [(0, .arr (.int .u8))]⟩)], [(4, ⟨[(0, .c (.row (.int .u8))), (3, .c (.own 0)), (4, .c (.int .i64))], [(0, .arr (.int .u8))]⟩)], [], 0, [], fuel⟩
theorem f14.run : ∀ x, runFn (f14.E 100000000000000000000) Go.Proofs.Try.f14 ((Go.Proofs.Try.f14.body).getD .skip) f14.S x = f14.S.f x := by intro x; kernel_rfl
theorem f14.sound : Sound Go.Proofs.Try.prog 14 f14.S := sound_of_run (fun _ => f14.E 100000000000000000000) (by kernel_rfl) (by kernel_rfl) (by kernel_rfl) orders (fun _ => ⟨tis_ok, EqsOk.nil _, FnsOk.nil⟩) (fun _ => rfl) (by kernel_rfl) (by kernel_rfl) (fun x r h => (f14.run x).trans h)
/-! f26: adit/grid.kind -/
def f26 (a0 : List Int) (a1 : Int) : Option (Int × Unit) :=
 bif Decidable.decide (a1 < 0) then
  some ((0, ()))
 else
  bif Decidable.decide (a1 ≥ (↑(List.length a0) : Int)) then
   some ((0, ()))
  else
   bif inRange a1 (List.length a0) then
    some ((Go.IntKind.wrap Go.IntKind.i64 (List.getD a0 (Int.toNat a1) 0), ()))
   else
    none
def f26.ins : Shape := ⟨[(0, .c (.row (.int .u8))), (1, .c (.int .i64))], []⟩
def f26.outs : List Shape := [⟨[(0, .c (.int .i64))], []⟩]
def f26.S : FnSpec := ⟨f26.ins, f26.outs, [], fun x => f26 x.1 x.2.1⟩
def f26.E (fuel : Nat) : Env := ⟨tis, [], [], [], [], [], 0, [], fuel⟩
theorem f26.run : ∀ x, runFn (f26.E 100000000000000000000) Go.Proofs.Try.f26 ((Go.Proofs.Try.f26.body).getD .skip) f26.S x = f26.S.f x := by intro x; kernel_rfl
theorem f26.sound : Sound Go.Proofs.Try.prog 26 f26.S := sound_of_run (fun _ => f26.E 100000000000000000000) (by kernel_rfl) (by kernel_rfl) (by kernel_rfl) orders (fun _ => ⟨tis_ok, EqsOk.nil _, FnsOk.nil⟩) (fun _ => rfl) (by kernel_rfl) (by kernel_rfl) (fun x r h => (f26.run x).trans h)
/-! f29: adit/grid.Walk -/
def f29 (a0 : Int) : Option (Bool × Unit) :=
 bif Decidable.decide (a0 ≥ 1) then
  some ((Decidable.decide (a0 ≤ 5), ()))
 else
  some ((Bool.false, ()))
def f29.ins : Shape := ⟨[(0, .c (.int .i64))], []⟩
def f29.outs : List Shape := [⟨[(0, .c (.bool))], []⟩]
def f29.S : FnSpec := ⟨f29.ins, f29.outs, [], fun x => f29 x.1⟩
def f29.E (fuel : Nat) : Env := ⟨tis, [], [], [], [], [], 0, [], fuel⟩
theorem f29.run : ∀ x, runFn (f29.E 100000000000000000000) Go.Proofs.Try.f29 ((Go.Proofs.Try.f29.body).getD .skip) f29.S x = f29.S.f x := by intro x; kernel_rfl
theorem f29.sound : Sound Go.Proofs.Try.prog 29 f29.S := sound_of_run (fun _ => f29.E 100000000000000000000) (by kernel_rfl) (by kernel_rfl) (by kernel_rfl) orders (fun _ => ⟨tis_ok, EqsOk.nil _, FnsOk.nil⟩) (fun _ => rfl) (by kernel_rfl) (by kernel_rfl) (fun x r h => (f29.run x).trans h)
/-! f30: adit/grid.beside -/
def f30 (a0 : Int) : Option (Int × Int × Int × Int × Unit) :=
 Option.bind (f22 (Int.tmod a0 24) (Go.IntKind.wrap Go.IntKind.i64 (Go.IntKind.wrap Go.IntKind.i64 (Int.tdiv a0 24) - 1))) fun y0 =>
  Option.bind (f22 (Go.IntKind.wrap Go.IntKind.i64 (Int.tmod a0 24 + 1)) (Go.IntKind.wrap Go.IntKind.i64 (Int.tdiv a0 24))) fun y1 =>
   Option.bind (f22 (Int.tmod a0 24) (Go.IntKind.wrap Go.IntKind.i64 (Go.IntKind.wrap Go.IntKind.i64 (Int.tdiv a0 24) + 1))) fun y2 =>
    Option.bind (f22 (Go.IntKind.wrap Go.IntKind.i64 (Int.tmod a0 24 - 1)) (Go.IntKind.wrap Go.IntKind.i64 (Int.tdiv a0 24))) fun y3 =>
     some ((y0.fst, y1.fst, y2.fst, y3.fst, ()))
def f30.ins : Shape := ⟨[(0, .c (.int .i64))], []⟩
def f30.outs : List Shape := [⟨[(0, .agg [.int .i64, .int .i64, .int .i64, .int .i64])], []⟩]
def f30.S : FnSpec := ⟨f30.ins, f30.outs, [], fun x => f30 x.1⟩
def f30.E (fuel : Nat) : Env := ⟨tis, [(22, f22.S)], [], [], [], [], 0, [], fuel⟩
theorem f30.run : ∀ x, runFn (f30.E 100000000000000000000) Go.Proofs.Try.f30 ((Go.Proofs.Try.f30.body).getD .skip) f30.S x = f30.S.f x := by intro x; kernel_rfl
theorem f30.sound : Sound Go.Proofs.Try.prog 30 f30.S := sound_of_run (fun _ => f30.E 100000000000000000000) (by kernel_rfl) (by kernel_rfl) (by kernel_rfl) orders (fun _ => ⟨tis_ok, EqsOk.nil _, (FnsOk.cons f22.sound FnsOk.nil)⟩) (fun _ => rfl) (by kernel_rfl) (by kernel_rfl) (fun x r h => (f30.run x).trans h)
/-! f17: adit/grid.Field -/
def f17.L1 (k0 : List Int × List Bool × Int × Int × Int × List Int × List Int × List Int × Unit → Option (List Int × Unit)) (x : List Int × List Bool × Int × Int × Int × Int × Int × Int × Int × Int × List Int × List Int × List Int × Unit) : Option (List Int × Unit) :=
 it (X := List Int × List Bool × Int × Int × Int × Int × Int × Int × Int × Int × List Int × List Int × List Int × Unit) (fun rec x =>
 bif Decidable.decide (x.snd.snd.snd.snd.snd.snd.snd.snd.snd.fst < 4) then
  bif inRange x.snd.snd.snd.snd.snd.snd.snd.snd.snd.fst 4 then
   Option.bind (α := List Int × List Bool × Int × Int × Int × Int × Int × Int × Int × Int × Int × List Int × List Int × List Int × Unit ⊕ List Int × Unit) (
    bif Decidable.decide (List.getD [x.snd.snd.snd.snd.snd.fst, x.snd.snd.snd.snd.snd.snd.fst, x.snd.snd.snd.snd.snd.snd.snd.fst, x.snd.snd.snd.snd.snd.snd.snd.snd.fst] (Int.toNat x.snd.snd.snd.snd.snd.snd.snd.snd.snd.fst) 0 < 0) then
     Option.bind (rec (x.fst, x.snd.fst, x.snd.snd.fst, x.snd.snd.snd.fst, x.snd.snd.snd.snd.fst, x.snd.snd.snd.snd.snd.fst, x.snd.snd.snd.snd.snd.snd.fst, x.snd.snd.snd.snd.snd.snd.snd.fst, x.snd.snd.snd.snd.snd.snd.snd.snd.fst, Go.IntKind.wrap Go.IntKind.i64 (x.snd.snd.snd.snd.snd.snd.snd.snd.snd.fst + 1), x.snd.snd.snd.snd.snd.snd.snd.snd.snd.snd.fst, x.snd.snd.snd.snd.snd.snd.snd.snd.snd.snd.snd.fst, x.snd.snd.snd.snd.snd.snd.snd.snd.snd.snd.snd.snd.fst, ())) fun y0 =>
      some (Sum.inr y0)
    else
     bif inRange (List.getD [x.snd.snd.snd.snd.snd.fst, x.snd.snd.snd.snd.snd.snd.fst, x.snd.snd.snd.snd.snd.snd.snd.fst, x.snd.snd.snd.snd.snd.snd.snd.snd.fst] (Int.toNat x.snd.snd.snd.snd.snd.snd.snd.snd.snd.fst) 0) (List.length x.snd.snd.snd.snd.snd.snd.snd.snd.snd.snd.fst) then
      bif Decidable.decide (List.getD x.snd.snd.snd.snd.snd.snd.snd.snd.snd.snd.fst (Int.toNat (List.getD [x.snd.snd.snd.snd.snd.fst, x.snd.snd.snd.snd.snd.snd.fst, x.snd.snd.snd.snd.snd.snd.snd.fst, x.snd.snd.snd.snd.snd.snd.snd.snd.fst] (Int.toNat x.snd.snd.snd.snd.snd.snd.snd.snd.snd.fst) 0)) 0 ≥ 0) then
       Option.bind (rec (x.fst, x.snd.fst, x.snd.snd.fst, x.snd.snd.snd.fst, x.snd.snd.snd.snd.fst, x.snd.snd.snd.snd.snd.fst, x.snd.snd.snd.snd.snd.snd.fst, x.snd.snd.snd.snd.snd.snd.snd.fst, x.snd.snd.snd.snd.snd.snd.snd.snd.fst, Go.IntKind.wrap Go.IntKind.i64 (x.snd.snd.snd.snd.snd.snd.snd.snd.snd.fst + 1), x.snd.snd.snd.snd.snd.snd.snd.snd.snd.snd.fst, x.snd.snd.snd.snd.snd.snd.snd.snd.snd.snd.snd.fst, x.snd.snd.snd.snd.snd.snd.snd.snd.snd.snd.snd.snd.fst, ())) fun y1 =>
        some (Sum.inr y1)
      else
       Option.bind (f26 x.fst (List.getD [x.snd.snd.snd.snd.snd.fst, x.snd.snd.snd.snd.snd.snd.fst, x.snd.snd.snd.snd.snd.snd.snd.fst, x.snd.snd.snd.snd.snd.snd.snd.snd.fst] (Int.toNat x.snd.snd.snd.snd.snd.snd.snd.snd.snd.fst) 0)) fun y2 =>
        Option.bind (f29 y2.fst) fun y3 =>
         bif !y3.fst then
          Option.bind (rec (x.fst, x.snd.fst, x.snd.snd.fst, x.snd.snd.snd.fst, x.snd.snd.snd.snd.fst, x.snd.snd.snd.snd.snd.fst, x.snd.snd.snd.snd.snd.snd.fst, x.snd.snd.snd.snd.snd.snd.snd.fst, x.snd.snd.snd.snd.snd.snd.snd.snd.fst, Go.IntKind.wrap Go.IntKind.i64 (x.snd.snd.snd.snd.snd.snd.snd.snd.snd.fst + 1), x.snd.snd.snd.snd.snd.snd.snd.snd.snd.snd.fst, x.snd.snd.snd.snd.snd.snd.snd.snd.snd.snd.snd.fst, x.snd.snd.snd.snd.snd.snd.snd.snd.snd.snd.snd.snd.fst, ())) fun y4 =>
           some (Sum.inr y4)
         else
          bif Decidable.decide (List.getD [x.snd.snd.snd.snd.snd.fst, x.snd.snd.snd.snd.snd.snd.fst, x.snd.snd.snd.snd.snd.snd.snd.fst, x.snd.snd.snd.snd.snd.snd.snd.snd.fst] (Int.toNat x.snd.snd.snd.snd.snd.snd.snd.snd.snd.fst) 0 < (↑(List.length x.snd.fst) : Int)) then
           bif inRange (List.getD [x.snd.snd.snd.snd.snd.fst, x.snd.snd.snd.snd.snd.snd.fst, x.snd.snd.snd.snd.snd.snd.snd.fst, x.snd.snd.snd.snd.snd.snd.snd.snd.fst] (Int.toNat x.snd.snd.snd.snd.snd.snd.snd.snd.snd.fst) 0) (List.length x.snd.fst) then
            bif List.getD x.snd.fst (Int.toNat (List.getD [x.snd.snd.snd.snd.snd.fst, x.snd.snd.snd.snd.snd.snd.fst, x.snd.snd.snd.snd.snd.snd.snd.fst, x.snd.snd.snd.snd.snd.snd.snd.snd.fst] (Int.toNat x.snd.snd.snd.snd.snd.snd.snd.snd.snd.fst) 0)) Bool.false then
             Option.bind (rec (x.fst, x.snd.fst, x.snd.snd.fst, x.snd.snd.snd.fst, x.snd.snd.snd.snd.fst, x.snd.snd.snd.snd.snd.fst, x.snd.snd.snd.snd.snd.snd.fst, x.snd.snd.snd.snd.snd.snd.snd.fst, x.snd.snd.snd.snd.snd.snd.snd.snd.fst, Go.IntKind.wrap Go.IntKind.i64 (x.snd.snd.snd.snd.snd.snd.snd.snd.snd.fst + 1), x.snd.snd.snd.snd.snd.snd.snd.snd.snd.snd.fst, x.snd.snd.snd.snd.snd.snd.snd.snd.snd.snd.snd.fst, x.snd.snd.snd.snd.snd.snd.snd.snd.snd.snd.snd.snd.fst, ())) fun y5 =>
              some (Sum.inr y5)
            else
             some (Sum.inl (x.fst, x.snd.fst, x.snd.snd.fst, List.getD [x.snd.snd.snd.snd.snd.fst, x.snd.snd.snd.snd.snd.snd.fst, x.snd.snd.snd.snd.snd.snd.snd.fst, x.snd.snd.snd.snd.snd.snd.snd.snd.fst] (Int.toNat x.snd.snd.snd.snd.snd.snd.snd.snd.snd.fst) 0, x.snd.snd.snd.fst, x.snd.snd.snd.snd.fst, x.snd.snd.snd.snd.snd.fst, x.snd.snd.snd.snd.snd.snd.fst, x.snd.snd.snd.snd.snd.snd.snd.fst, x.snd.snd.snd.snd.snd.snd.snd.snd.fst, x.snd.snd.snd.snd.snd.snd.snd.snd.snd.fst, x.snd.snd.snd.snd.snd.snd.snd.snd.snd.snd.fst, x.snd.snd.snd.snd.snd.snd.snd.snd.snd.snd.snd.fst, x.snd.snd.snd.snd.snd.snd.snd.snd.snd.snd.snd.snd.fst, ()))
           else
            none
          else
           some (Sum.inl (x.fst, x.snd.fst, x.snd.snd.fst, List.getD [x.snd.snd.snd.snd.snd.fst, x.snd.snd.snd.snd.snd.snd.fst, x.snd.snd.snd.snd.snd.snd.snd.fst, x.snd.snd.snd.snd.snd.snd.snd.snd.fst] (Int.toNat x.snd.snd.snd.snd.snd.snd.snd.snd.snd.fst) 0, x.snd.snd.snd.fst, x.snd.snd.snd.snd.fst, x.snd.snd.snd.snd.snd.fst, x.snd.snd.snd.snd.snd.snd.fst, x.snd.snd.snd.snd.snd.snd.snd.fst, x.snd.snd.snd.snd.snd.snd.snd.snd.fst, x.snd.snd.snd.snd.snd.snd.snd.snd.snd.fst, x.snd.snd.snd.snd.snd.snd.snd.snd.snd.snd.fst, x.snd.snd.snd.snd.snd.snd.snd.snd.snd.snd.snd.fst, x.snd.snd.snd.snd.snd.snd.snd.snd.snd.snd.snd.snd.fst, ()))
     else
      none
   ) fun y6 =>
    Sum.elim (fun y7 =>
     bif inRange y7.snd.snd.snd.fst (List.length y7.snd.snd.snd.snd.snd.snd.snd.snd.snd.snd.snd.fst) then
      bif Decidable.decide (List.length y7.snd.snd.snd.snd.snd.snd.snd.snd.snd.snd.snd.snd.fst + List.length [y7.snd.snd.snd.fst] ≤ limit 8) then
       rec (y7.fst, y7.snd.fst, y7.snd.snd.fst, y7.snd.snd.snd.snd.fst, y7.snd.snd.snd.snd.snd.fst, y7.snd.snd.snd.snd.snd.snd.fst, y7.snd.snd.snd.snd.snd.snd.snd.fst, y7.snd.snd.snd.snd.snd.snd.snd.snd.fst, y7.snd.snd.snd.snd.snd.snd.snd.snd.snd.fst, Go.IntKind.wrap Go.IntKind.i64 (y7.snd.snd.snd.snd.snd.snd.snd.snd.snd.snd.fst + 1), List.set y7.snd.snd.snd.snd.snd.snd.snd.snd.snd.snd.snd.fst (Int.toNat y7.snd.snd.snd.fst) y7.snd.snd.fst, y7.snd.snd.snd.snd.snd.snd.snd.snd.snd.snd.snd.snd.fst ++ [y7.snd.snd.snd.fst], y7.snd.snd.snd.snd.snd.snd.snd.snd.snd.snd.snd.snd.snd.fst, ())
      else
       none
     else
      none
    ) (fun z8 =>
     some (z8)
    ) (y6)
  else
   none
 else
  k0 (x.fst, x.snd.fst, x.snd.snd.fst, x.snd.snd.snd.fst, Go.IntKind.wrap Go.IntKind.i64 (x.snd.snd.snd.snd.fst + 1), x.snd.snd.snd.snd.snd.snd.snd.snd.snd.snd.fst, x.snd.snd.snd.snd.snd.snd.snd.snd.snd.snd.snd.fst, x.snd.snd.snd.snd.snd.snd.snd.snd.snd.snd.snd.snd.fst, ())
 ) (100000000000000000000) (x)
def f17.L2 (k0 : List Int × List Bool × Int × List Int × List Int × Unit → Option (List Int × Unit)) (x : List Int × List Bool × Int × Int × Int × List Int × List Int × List Int × Unit) : Option (List Int × Unit) :=
 it (X := List Int × List Bool × Int × Int × Int × List Int × List Int × List Int × Unit) (fun rec x =>
 bif Decidable.decide (x.snd.snd.snd.snd.fst < x.snd.snd.snd.fst) then
  bif inRange x.snd.snd.snd.snd.fst (List.length x.snd.snd.snd.snd.snd.snd.snd.fst) then
   Option.bind (f30 (List.getD x.snd.snd.snd.snd.snd.snd.snd.fst (Int.toNat x.snd.snd.snd.snd.fst) 0)) fun y0 =>
    f17.L1 rec ((x.fst, x.snd.fst, x.snd.snd.fst, x.snd.snd.snd.fst, x.snd.snd.snd.snd.fst, y0.fst, y0.snd.fst, y0.snd.snd.fst, y0.snd.snd.snd.fst, 0, x.snd.snd.snd.snd.snd.fst, x.snd.snd.snd.snd.snd.snd.fst, x.snd.snd.snd.snd.snd.snd.snd.fst, ()))
  else
   none
 else
  bif Decidable.decide ((↑(List.length x.snd.snd.snd.snd.snd.snd.fst) : Int) > 0) then
   k0 (x.fst, x.snd.fst, x.snd.snd.fst, x.snd.snd.snd.snd.snd.fst, x.snd.snd.snd.snd.snd.snd.fst, ())
  else
   some ((x.snd.snd.snd.snd.snd.fst, ()))
 ) (100000000000000000000) (x)
def f17.L3 (x : List Int × List Bool × Int × List Int × List Int × Unit) : Option (List Int × Unit) :=
 it (X := List Int × List Bool × Int × List Int × List Int × Unit) (fun rec x =>
 f17.L2 rec ((x.fst, x.snd.fst, Go.IntKind.wrap Go.IntKind.i64 (x.snd.snd.fst + 1), (↑(List.length x.snd.snd.snd.snd.fst) : Int), 0, x.snd.snd.snd.fst, [], x.snd.snd.snd.snd.fst, ()))
 ) (100000000000000000000) (x)
def f17.L4 (x : List Int × List Bool × Int × Int × Int × List Int × List Int × List Int × Unit) : Option (List Int × Unit) :=
 it (X := List Int × List Bool × Int × Int × Int × List Int × List Int × List Int × Unit) (fun rec x =>
 bif Decidable.decide (x.snd.snd.snd.snd.fst < x.snd.snd.snd.fst) then
  bif inRange x.snd.snd.snd.snd.fst (List.length x.snd.snd.snd.snd.snd.snd.snd.fst) then
   Option.bind (f30 (List.getD x.snd.snd.snd.snd.snd.snd.snd.fst (Int.toNat x.snd.snd.snd.snd.fst) 0)) fun y0 =>
    f17.L1 rec ((x.fst, x.snd.fst, x.snd.snd.fst, x.snd.snd.snd.fst, x.snd.snd.snd.snd.fst, y0.fst, y0.snd.fst, y0.snd.snd.fst, y0.snd.snd.snd.fst, 0, x.snd.snd.snd.snd.snd.fst, x.snd.snd.snd.snd.snd.snd.fst, x.snd.snd.snd.snd.snd.snd.snd.fst, ()))
  else
   none
 else
  bif Decidable.decide ((↑(List.length x.snd.snd.snd.snd.snd.snd.fst) : Int) > 0) then
   f17.L3 ((x.fst, x.snd.fst, x.snd.snd.fst, x.snd.snd.snd.snd.snd.fst, x.snd.snd.snd.snd.snd.snd.fst, ()))
  else
   some ((x.snd.snd.snd.snd.snd.fst, ()))
 ) (100000000000000000000) (x)
def f17.L5 (x : List Int × List Bool × List Int × Int × Int × List Int × List Int × Unit) : Option (List Int × Unit) :=
 it (X := List Int × List Bool × List Int × Int × Int × List Int × List Int × Unit) (fun rec x =>
 bif Decidable.decide (x.snd.snd.snd.snd.fst < x.snd.snd.snd.fst) then
  bif inRange x.snd.snd.snd.snd.fst (List.length x.snd.snd.fst) then
   bif Decidable.decide (List.getD x.snd.snd.fst (Int.toNat x.snd.snd.snd.snd.fst) 0 ≥ 0) then
    bif Decidable.decide (List.getD x.snd.snd.fst (Int.toNat x.snd.snd.snd.snd.fst) 0 < 384) then
     bif inRange (List.getD x.snd.snd.fst (Int.toNat x.snd.snd.snd.snd.fst) 0) (List.length x.snd.snd.snd.snd.snd.fst) then
      bif Decidable.decide (List.getD x.snd.snd.snd.snd.snd.fst (Int.toNat (List.getD x.snd.snd.fst (Int.toNat x.snd.snd.snd.snd.fst) 0)) 0 < 0) then
       Option.bind (f26 x.fst (List.getD x.snd.snd.fst (Int.toNat x.snd.snd.snd.snd.fst) 0)) fun y0 =>
        Option.bind (f29 y0.fst) fun y1 =>
         bif y1.fst then
          bif inRange (List.getD x.snd.snd.fst (Int.toNat x.snd.snd.snd.snd.fst) 0) (List.length x.snd.snd.snd.snd.snd.fst) then
           bif Decidable.decide (List.length x.snd.snd.snd.snd.snd.snd.fst + List.length [List.getD x.snd.snd.fst (Int.toNat x.snd.snd.snd.snd.fst) 0] ≤ limit 8) then
            rec (x.fst, x.snd.fst, x.snd.snd.fst, x.snd.snd.snd.fst, Go.IntKind.wrap Go.IntKind.i64 (x.snd.snd.snd.snd.fst + 1), List.set x.snd.snd.snd.snd.snd.fst (Int.toNat (List.getD x.snd.snd.fst (Int.toNat x.snd.snd.snd.snd.fst) 0)) 0, x.snd.snd.snd.snd.snd.snd.fst ++ [List.getD x.snd.snd.fst (Int.toNat x.snd.snd.snd.snd.fst) 0], ())
           else
            none
          else
           none
         else
          rec (x.fst, x.snd.fst, x.snd.snd.fst, x.snd.snd.snd.fst, Go.IntKind.wrap Go.IntKind.i64 (x.snd.snd.snd.snd.fst + 1), x.snd.snd.snd.snd.snd.fst, x.snd.snd.snd.snd.snd.snd.fst, ())
      else
       rec (x.fst, x.snd.fst, x.snd.snd.fst, x.snd.snd.snd.fst, Go.IntKind.wrap Go.IntKind.i64 (x.snd.snd.snd.snd.fst + 1), x.snd.snd.snd.snd.snd.fst, x.snd.snd.snd.snd.snd.snd.fst, ())
     else
      none
    else
     rec (x.fst, x.snd.fst, x.snd.snd.fst, x.snd.snd.snd.fst, Go.IntKind.wrap Go.IntKind.i64 (x.snd.snd.snd.snd.fst + 1), x.snd.snd.snd.snd.snd.fst, x.snd.snd.snd.snd.snd.snd.fst, ())
   else
    rec (x.fst, x.snd.fst, x.snd.snd.fst, x.snd.snd.snd.fst, Go.IntKind.wrap Go.IntKind.i64 (x.snd.snd.snd.snd.fst + 1), x.snd.snd.snd.snd.snd.fst, x.snd.snd.snd.snd.snd.snd.fst, ())
  else
   none
 else
  f17.L4 ((x.fst, x.snd.fst, Go.IntKind.wrap Go.IntKind.i64 (0 + 1), (↑(List.length x.snd.snd.snd.snd.snd.snd.fst) : Int), 0, x.snd.snd.snd.snd.snd.fst, [], x.snd.snd.snd.snd.snd.snd.fst, ()))
 ) (100000000000000000000) (x)
def f17.L6 (x : List Int × List Bool × List Int × Int × Int × List Int × Unit) : Option (List Int × Unit) :=
 it (X := List Int × List Bool × List Int × Int × Int × List Int × Unit) (fun rec x =>
 bif Decidable.decide (x.snd.snd.snd.snd.fst < x.snd.snd.snd.fst) then
  bif inRange x.snd.snd.snd.snd.fst (List.length x.snd.snd.snd.snd.snd.fst) then
   rec (x.fst, x.snd.fst, x.snd.snd.fst, x.snd.snd.snd.fst, Go.IntKind.wrap Go.IntKind.i64 (x.snd.snd.snd.snd.fst + 1), List.set x.snd.snd.snd.snd.snd.fst (Int.toNat x.snd.snd.snd.snd.fst) (-1), ())
  else
   none
 else
  f17.L5 ((x.fst, x.snd.fst, x.snd.snd.fst, (↑(List.length x.snd.snd.fst) : Int), 0, x.snd.snd.snd.snd.snd.fst, [], ()))
 ) (100000000000000000000) (x)
def f17 (a0 : List Int) (a1 : List Bool) (a2 : List Int) : Option (List Int × Unit) :=
 f17.L6 ((a0, a1, a2, (↑(List.length (List.replicate (Int.toNat 384) 0)) : Int), 0, List.replicate (Int.toNat 384) 0, ()))
def f17.ins : Shape := ⟨[(0, .c (.row (.int .u8))), (1, .c (.row .bool)), (2, .c (.row (.int .i64)))], []⟩
def f17.outs : List Shape := [⟨[(0, .c (.own 0))], [(0, .arr (.int .i64))]⟩]
def f17.S : FnSpec := ⟨f17.ins, f17.outs, [], fun x => f17 x.1 x.2.1 x.2.2.1⟩
def f17.E (fuel : Nat) : Env := ⟨tis, [(26, f26.S), (29, f29.S), (30, f30.S)], [], [(26, ⟨[(0, .c (.row (.int .u8))), (1, .c (.row .bool)), (7, .c (.own 0)), (10, .c (.own 1)), (13, .c (.int .i64)), (17, .c (.int .i64)), (63, .c (.own 2)), (64, .c (.int .i64)), (65, .c (.int .i64)), (70, .agg [.int .i64, .int .i64, .int .i64, .int .i64]), (71, .c (.int .i64))], [(0, .arr (.int .i64)), (1, .arr (.int .i64)), (2, .arr (.int .i64))]⟩)], [(4, ⟨[(0, .c (.row (.int .u8))), (1, .c (.row .bool)), (2, .c (.row (.int .i64))), (7, .c (.own 0)), (20, .c (.int .i64)), (21, .c (.int .i64))], [(0, .arr (.int .i64))]⟩), (10, ⟨[(0, .c (.row (.int .u8))), (1, .c (.row .bool)), (7, .c (.own 0)), (9, .c (.own 1)), (28, .c (.row (.int .i64))), (29, .c (.int .i64)), (30, .c (.int .i64))], [(0, .arr (.int .i64)), (1, .arr (.int .i64))]⟩), (20, ⟨[(0, .c (.row (.int .u8))), (1, .c (.row .bool)), (7, .c (.own 0)), (10, .c (.own 1)), (13, .c (.int .i64)), (63, .c (.own 2)), (64, .c (.int .i64)), (65, .c (.int .i64))], [(0, .arr (.int .i64)), (1, .arr (.int .i64)), (2, .arr (.int .i64))]⟩), (23, ⟨[(0, .c (.row (.int .u8))), (1, .c (.row .bool)), (7, .c (.own 0)), (10, .c (.own 1)), (13, .c (.int .i64)), (63, .c (.own 2)), (64, .c (.int .i64)), (65, .c (.int .i64)), (70, .agg [.int .i64, .int .i64, .int .i64, .int .i64]), (71, .c (.int .i64))], [(0, .arr (.int .i64)), (1, .arr (.int .i64)), (2, .arr (.int .i64))]⟩)], [(0, ⟨[(0, .c (.row (.int .u8))), (1, .c (.row .bool)), (7, .c (.own 0)), (9, .c (.own 1)), (13, .c (.int .i64))], [(0, .arr (.int .i64)), (1, .arr (.int .i64))]⟩)], 0, [], fuel⟩
theorem f17.run : ∀ x, runFn (f17.E 100000000000000000000) Go.Proofs.Try.f17 ((Go.Proofs.Try.f17.body).getD .skip) f17.S x = f17.S.f x := by intro x; kernel_rfl
theorem f17.sound : Sound Go.Proofs.Try.prog 17 f17.S := sound_of_run (fun _ => f17.E 100000000000000000000) (by kernel_rfl) (by kernel_rfl) (by kernel_rfl) orders (fun _ => ⟨tis_ok, EqsOk.nil _, (FnsOk.cons f26.sound (FnsOk.cons f29.sound (FnsOk.cons f30.sound FnsOk.nil)))⟩) (fun _ => rfl) (by kernel_rfl) (by kernel_rfl) (fun x r h => (f17.run x).trans h)
/-! f19: adit/aditref3.Walk -/
def f19 (a0 : Int) : Option (Bool × Unit) :=
 bif Decidable.decide (a0 ≥ 1) then
  some ((Decidable.decide (a0 ≤ 5), ()))
 else
  some ((Bool.false, ()))
def f19.ins : Shape := ⟨[(0, .c (.int .i64))], []⟩
def f19.outs : List Shape := [⟨[(0, .c (.bool))], []⟩]
def f19.S : FnSpec := ⟨f19.ins, f19.outs, [], fun x => f19 x.1⟩
def f19.E (fuel : Nat) : Env := ⟨tis, [], [], [], [], [], 0, [], fuel⟩
theorem f19.run : ∀ x, runFn (f19.E 100000000000000000000) Go.Proofs.Try.f19 ((Go.Proofs.Try.f19.body).getD .skip) f19.S x = f19.S.f x := by intro x; kernel_rfl
theorem f19.sound : Sound Go.Proofs.Try.prog 19 f19.S := sound_of_run (fun _ => f19.E 100000000000000000000) (by kernel_rfl) (by kernel_rfl) (by kernel_rfl) orders (fun _ => ⟨tis_ok, EqsOk.nil _, FnsOk.nil⟩) (fun _ => rfl) (by kernel_rfl) (by kernel_rfl) (fun x r h => (f19.run x).trans h)
/-! f20: adit/aditref3.In -/
def f20 (a0 : Int) (a1 : Int) : Option (Bool × Unit) :=
 bif Decidable.decide (a0 ≥ 0) then
  bif Decidable.decide (a0 < 24) then
   bif Decidable.decide (a1 ≥ 0) then
    some ((Decidable.decide (a1 < 16), ()))
   else
    some ((Bool.false, ()))
  else
   some ((Bool.false, ()))
 else
  some ((Bool.false, ()))
def f20.ins : Shape := ⟨[(0, .c (.int .i64)), (1, .c (.int .i64))], []⟩
def f20.outs : List Shape := [⟨[(0, .c (.bool))], []⟩]
def f20.S : FnSpec := ⟨f20.ins, f20.outs, [], fun x => f20 x.1 x.2.1⟩
def f20.E (fuel : Nat) : Env := ⟨tis, [], [], [], [], [], 0, [], fuel⟩
theorem f20.run : ∀ x, runFn (f20.E 100000000000000000000) Go.Proofs.Try.f20 ((Go.Proofs.Try.f20.body).getD .skip) f20.S x = f20.S.f x := by intro x; kernel_rfl
theorem f20.sound : Sound Go.Proofs.Try.prog 20 f20.S := sound_of_run (fun _ => f20.E 100000000000000000000) (by kernel_rfl) (by kernel_rfl) (by kernel_rfl) orders (fun _ => ⟨tis_ok, EqsOk.nil _, FnsOk.nil⟩) (fun _ => rfl) (by kernel_rfl) (by kernel_rfl) (fun x r h => (f20.run x).trans h)
/-! f6: adit/aditlaw3.GridSteps -/
def f6.L1 (k0 : List Bool × Int × List Int × List Int × Unit → Option (Bool × Unit)) (x : List Bool × Int × Int × Int × Bool × Bool × Int × List Int × List Int × Unit) : Option (Bool × Unit) :=
 it (X := List Bool × Int × Int × Int × Bool × Bool × Int × List Int × List Int × Unit) (fun rec x =>
 bif Decidable.decide (x.snd.snd.snd.snd.snd.snd.fst < 4) then
  bif inRange x.snd.snd.snd.snd.snd.snd.fst (List.length [0, 1, 0, -1]) then
   bif inRange x.snd.snd.snd.snd.snd.snd.fst (List.length [-1, 0, 1, 0]) then
    Option.bind (f20 (Go.IntKind.wrap Go.IntKind.i64 (x.snd.snd.fst + List.getD [0, 1, 0, -1] (Int.toNat x.snd.snd.snd.snd.snd.snd.fst) 0)) (Go.IntKind.wrap Go.IntKind.i64 (x.snd.snd.snd.fst + List.getD [-1, 0, 1, 0] (Int.toNat x.snd.snd.snd.snd.snd.snd.fst) 0))) fun y0 =>
     bif !y0.fst then
      rec (x.fst, x.snd.fst, x.snd.snd.fst, x.snd.snd.snd.fst, x.snd.snd.snd.snd.fst, x.snd.snd.snd.snd.snd.fst, Go.IntKind.wrap Go.IntKind.i64 (x.snd.snd.snd.snd.snd.snd.fst + 1), x.snd.snd.snd.snd.snd.snd.snd.fst, x.snd.snd.snd.snd.snd.snd.snd.snd.fst, ())
     else
      bif inRange (Go.IntKind.wrap Go.IntKind.i64 (Go.IntKind.wrap Go.IntKind.i64 (Go.IntKind.wrap Go.IntKind.i64 (x.snd.snd.snd.fst + List.getD [-1, 0, 1, 0] (Int.toNat x.snd.snd.snd.snd.snd.snd.fst) 0) * 24) + Go.IntKind.wrap Go.IntKind.i64 (x.snd.snd.fst + List.getD [0, 1, 0, -1] (Int.toNat x.snd.snd.snd.snd.snd.snd.fst) 0))) (List.length x.snd.snd.snd.snd.snd.snd.snd.snd.fst) then
       Option.bind (α := List Bool × Int × Int × Int × Bool × Bool × Int × Int × List Int × List Int × Unit ⊕ Bool × Unit) (
        bif x.snd.snd.snd.snd.snd.fst then
         some (Sum.inl (x.fst, x.snd.fst, x.snd.snd.fst, x.snd.snd.snd.fst, x.snd.snd.snd.snd.fst, Bool.true, x.snd.snd.snd.snd.snd.snd.fst, List.getD x.snd.snd.snd.snd.snd.snd.snd.snd.fst (Int.toNat (Go.IntKind.wrap Go.IntKind.i64 (Go.IntKind.wrap Go.IntKind.i64 (Go.IntKind.wrap Go.IntKind.i64 (x.snd.snd.snd.fst + List.getD [-1, 0, 1, 0] (Int.toNat x.snd.snd.snd.snd.snd.snd.fst) 0) * 24) + Go.IntKind.wrap Go.IntKind.i64 (x.snd.snd.fst + List.getD [0, 1, 0, -1] (Int.toNat x.snd.snd.snd.snd.snd.snd.fst) 0)))) 0, x.snd.snd.snd.snd.snd.snd.snd.fst, x.snd.snd.snd.snd.snd.snd.snd.snd.fst, ()))
        else
         bif Decidable.decide (List.getD x.snd.snd.snd.snd.snd.snd.snd.snd.fst (Int.toNat (Go.IntKind.wrap Go.IntKind.i64 (Go.IntKind.wrap Go.IntKind.i64 (Go.IntKind.wrap Go.IntKind.i64 (x.snd.snd.snd.fst + List.getD [-1, 0, 1, 0] (Int.toNat x.snd.snd.snd.snd.snd.snd.fst) 0) * 24) + Go.IntKind.wrap Go.IntKind.i64 (x.snd.snd.fst + List.getD [0, 1, 0, -1] (Int.toNat x.snd.snd.snd.snd.snd.snd.fst) 0)))) 0 ≥ 0) then
          bif inRange x.snd.fst (List.length x.snd.snd.snd.snd.snd.snd.snd.snd.fst) then
           some (Sum.inl (x.fst, x.snd.fst, x.snd.snd.fst, x.snd.snd.snd.fst, x.snd.snd.snd.snd.fst, List.getD x.snd.snd.snd.snd.snd.snd.snd.snd.fst (Int.toNat (Go.IntKind.wrap Go.IntKind.i64 (Go.IntKind.wrap Go.IntKind.i64 (Go.IntKind.wrap Go.IntKind.i64 (x.snd.snd.snd.fst + List.getD [-1, 0, 1, 0] (Int.toNat x.snd.snd.snd.snd.snd.snd.fst) 0) * 24) + Go.IntKind.wrap Go.IntKind.i64 (x.snd.snd.fst + List.getD [0, 1, 0, -1] (Int.toNat x.snd.snd.snd.snd.snd.snd.fst) 0)))) 0 == Go.IntKind.wrap Go.IntKind.i64 (List.getD x.snd.snd.snd.snd.snd.snd.snd.snd.fst (Int.toNat x.snd.fst) 0 - 1), x.snd.snd.snd.snd.snd.snd.fst, List.getD x.snd.snd.snd.snd.snd.snd.snd.snd.fst (Int.toNat (Go.IntKind.wrap Go.IntKind.i64 (Go.IntKind.wrap Go.IntKind.i64 (Go.IntKind.wrap Go.IntKind.i64 (x.snd.snd.snd.fst + List.getD [-1, 0, 1, 0] (Int.toNat x.snd.snd.snd.snd.snd.snd.fst) 0) * 24) + Go.IntKind.wrap Go.IntKind.i64 (x.snd.snd.fst + List.getD [0, 1, 0, -1] (Int.toNat x.snd.snd.snd.snd.snd.snd.fst) 0)))) 0, x.snd.snd.snd.snd.snd.snd.snd.fst, x.snd.snd.snd.snd.snd.snd.snd.snd.fst, ()))
          else
           none
         else
          some (Sum.inl (x.fst, x.snd.fst, x.snd.snd.fst, x.snd.snd.snd.fst, x.snd.snd.snd.snd.fst, Bool.false, x.snd.snd.snd.snd.snd.snd.fst, List.getD x.snd.snd.snd.snd.snd.snd.snd.snd.fst (Int.toNat (Go.IntKind.wrap Go.IntKind.i64 (Go.IntKind.wrap Go.IntKind.i64 (Go.IntKind.wrap Go.IntKind.i64 (x.snd.snd.snd.fst + List.getD [-1, 0, 1, 0] (Int.toNat x.snd.snd.snd.snd.snd.snd.fst) 0) * 24) + Go.IntKind.wrap Go.IntKind.i64 (x.snd.snd.fst + List.getD [0, 1, 0, -1] (Int.toNat x.snd.snd.snd.snd.snd.snd.fst) 0)))) 0, x.snd.snd.snd.snd.snd.snd.snd.fst, x.snd.snd.snd.snd.snd.snd.snd.snd.fst, ()))
       ) fun y1 =>
        Sum.elim (fun y2 =>
         bif y2.snd.snd.snd.snd.fst then
          bif Decidable.decide (y2.snd.snd.snd.snd.snd.snd.snd.fst ≥ 0) then
           bif inRange y2.snd.fst (List.length y2.snd.snd.snd.snd.snd.snd.snd.snd.snd.fst) then
            bif Decidable.decide (List.getD y2.snd.snd.snd.snd.snd.snd.snd.snd.snd.fst (Int.toNat y2.snd.fst) 0 < 0) then
             some ((Bool.false, ()))
            else
             bif inRange y2.snd.fst (List.length y2.snd.snd.snd.snd.snd.snd.snd.snd.snd.fst) then
              bif Decidable.decide (List.getD y2.snd.snd.snd.snd.snd.snd.snd.snd.snd.fst (Int.toNat y2.snd.fst) 0 > Go.IntKind.wrap Go.IntKind.i64 (y2.snd.snd.snd.snd.snd.snd.snd.fst + 1)) then
               some ((Bool.false, ()))
              else
               rec (y2.fst, y2.snd.fst, y2.snd.snd.fst, y2.snd.snd.snd.fst, y2.snd.snd.snd.snd.fst, y2.snd.snd.snd.snd.snd.fst, Go.IntKind.wrap Go.IntKind.i64 (y2.snd.snd.snd.snd.snd.snd.fst + 1), y2.snd.snd.snd.snd.snd.snd.snd.snd.fst, y2.snd.snd.snd.snd.snd.snd.snd.snd.snd.fst, ())
             else
              none
           else
            none
          else
           rec (y2.fst, y2.snd.fst, y2.snd.snd.fst, y2.snd.snd.snd.fst, y2.snd.snd.snd.snd.fst, y2.snd.snd.snd.snd.snd.fst, Go.IntKind.wrap Go.IntKind.i64 (y2.snd.snd.snd.snd.snd.snd.fst + 1), y2.snd.snd.snd.snd.snd.snd.snd.snd.fst, y2.snd.snd.snd.snd.snd.snd.snd.snd.snd.fst, ())
         else
          rec (y2.fst, y2.snd.fst, y2.snd.snd.fst, y2.snd.snd.snd.fst, y2.snd.snd.snd.snd.fst, y2.snd.snd.snd.snd.snd.fst, Go.IntKind.wrap Go.IntKind.i64 (y2.snd.snd.snd.snd.snd.snd.fst + 1), y2.snd.snd.snd.snd.snd.snd.snd.snd.fst, y2.snd.snd.snd.snd.snd.snd.snd.snd.snd.fst, ())
        ) (fun z3 =>
         some (z3)
        ) (y1)
      else
       none
   else
    none
  else
   none
 else
  bif inRange x.snd.fst (List.length x.snd.snd.snd.snd.snd.snd.snd.snd.fst) then
   bif Decidable.decide (List.getD x.snd.snd.snd.snd.snd.snd.snd.snd.fst (Int.toNat x.snd.fst) 0 > 0) then
    bif !x.snd.snd.snd.snd.snd.fst then
     some ((Bool.false, ()))
    else
     bif !x.snd.snd.snd.snd.fst then
      some ((Bool.false, ()))
     else
      k0 (x.fst, Go.IntKind.wrap Go.IntKind.i64 (x.snd.fst + 1), x.snd.snd.snd.snd.snd.snd.snd.fst, x.snd.snd.snd.snd.snd.snd.snd.snd.fst, ())
   else
    k0 (x.fst, Go.IntKind.wrap Go.IntKind.i64 (x.snd.fst + 1), x.snd.snd.snd.snd.snd.snd.snd.fst, x.snd.snd.snd.snd.snd.snd.snd.snd.fst, ())
  else
   none
 ) (100000000000000000000) (x)
def f6.L2 (x : List Bool × Int × List Int × List Int × Unit) : Option (Bool × Unit) :=
 it (X := List Bool × Int × List Int × List Int × Unit) (fun rec x =>
 bif Decidable.decide (x.snd.fst < 384) then
  Option.bind (α := List Bool × Int × Int × Int × Bool × List Int × List Int × Unit ⊕ Bool × Unit) (
   bif inRange x.snd.fst (List.length x.snd.snd.fst) then
    Option.bind (f19 (Go.IntKind.wrap Go.IntKind.i64 (List.getD x.snd.snd.fst (Int.toNat x.snd.fst) 0))) fun y0 =>
     bif y0.fst then
      bif Decidable.decide (x.snd.fst ≥ (↑(List.length x.fst) : Int)) then
       some (Sum.inl (x.fst, x.snd.fst, Int.tmod x.snd.fst 24, Go.IntKind.wrap Go.IntKind.i64 (Int.tdiv x.snd.fst 24), Bool.true, x.snd.snd.fst, x.snd.snd.snd.fst, ()))
      else
       bif inRange x.snd.fst (List.length x.fst) then
        some (Sum.inl (x.fst, x.snd.fst, Int.tmod x.snd.fst 24, Go.IntKind.wrap Go.IntKind.i64 (Int.tdiv x.snd.fst 24), !List.getD x.fst (Int.toNat x.snd.fst) Bool.false, x.snd.snd.fst, x.snd.snd.snd.fst, ()))
       else
        none
     else
      some (Sum.inl (x.fst, x.snd.fst, Int.tmod x.snd.fst 24, Go.IntKind.wrap Go.IntKind.i64 (Int.tdiv x.snd.fst 24), Bool.false, x.snd.snd.fst, x.snd.snd.snd.fst, ()))
   else
    none
  ) fun y1 =>
   Sum.elim (fun y2 =>
    f6.L1 rec ((y2.fst, y2.snd.fst, y2.snd.snd.fst, y2.snd.snd.snd.fst, y2.snd.snd.snd.snd.fst, Bool.false, 0, y2.snd.snd.snd.snd.snd.fst, y2.snd.snd.snd.snd.snd.snd.fst, ()))
   ) (fun z3 =>
    some (z3)
   ) (y1)
 else
  some ((Bool.true, ()))
 ) (100000000000000000000) (x)
def f6 (a0 : List Int) (a1 : List Bool) (a2 : List Int) : Option (Bool × Unit) :=
 Option.bind (f9) fun y0 =>
  bif !y0.fst then
   some ((Bool.false, ()))
  else
   bif Decidable.decide ((↑(List.length a0) : Int) > 1000) then
    some ((Bool.true, ()))
   else
    bif Decidable.decide ((↑(List.length a1) : Int) > 1000) then
     some ((Bool.true, ()))
    else
     bif Decidable.decide ((↑(List.length a2) : Int) > 50) then
      some ((Bool.true, ()))
     else
      Option.bind (f14 a0) fun y1 =>
       Option.bind (f17 y1.fst a1 a2) fun y2 =>
        bif (↑(List.length y2.fst) : Int) != 384 then
         some ((Bool.false, ()))
        else
         f6.L2 ((a1, 0, y1.fst, y2.fst, ()))
def f6.ins : Shape := ⟨[(0, .c (.row (.int .u8))), (1, .c (.row .bool)), (2, .c (.row (.int .i64)))], []⟩
def f6.outs : List Shape := [⟨[(0, .c (.bool))], []⟩]
def f6.S : FnSpec := ⟨f6.ins, f6.outs, [], fun x => f6 x.1 x.2.1 x.2.2.1⟩
def f6.E (fuel : Nat) : Env := ⟨tis, [(9, f9.S), (14, f14.S), (17, f17.S), (19, f19.S), (20, f20.S)], [], [(15, ⟨[(1, .c (.row .bool)), (7, .c (.own 0)), (8, .c (.own 1)), (9, .c (.int .i64)), (10, .c (.int .i64)), (11, .c (.int .i64)), (12, .c (.bool))], [(0, .arr (.int .u8)), (1, .arr (.int .i64))]⟩), (23, ⟨[(1, .c (.row .bool)), (7, .c (.own 0)), (8, .c (.own 1)), (9, .c (.int .i64)), (10, .c (.int .i64)), (11, .c (.int .i64)), (12, .c (.bool)), (13, .c (.bool)), (14, .c (.int .i64)), (17, .c (.int .i64))], [(0, .arr (.int .u8)), (1, .arr (.int .i64))]⟩)], [(11, ⟨[(1, .c (.row .bool)), (7, .c (.own 0)), (8, .c (.own 1)), (9, .c (.int .i64))], [(0, .arr (.int .u8)), (1, .arr (.int .i64))]⟩), (17, ⟨[(1, .c (.row .bool)), (7, .c (.own 0)), (8, .c (.own 1)), (9, .c (.int .i64)), (10, .c (.int .i64)), (11, .c (.int .i64)), (12, .c (.bool)), (13, .c (.bool)), (14, .c (.int .i64))], [(0, .arr (.int .u8)), (1, .arr (.int .i64))]⟩)], [], 0, [], fuel⟩
theorem f6.run : ∀ x, runFn (f6.E 100000000000000000000) Go.Proofs.Try.f6 ((Go.Proofs.Try.f6.body).getD .skip) f6.S x = f6.S.f x := by intro x; kernel_rfl
theorem f6.sound : Sound Go.Proofs.Try.prog 6 f6.S := sound_of_run (fun _ => f6.E 100000000000000000000) (by kernel_rfl) (by kernel_rfl) (by kernel_rfl) orders (fun _ => ⟨tis_ok, EqsOk.nil _, (FnsOk.cons f9.sound (FnsOk.cons f14.sound (FnsOk.cons f17.sound (FnsOk.cons f19.sound (FnsOk.cons f20.sound FnsOk.nil)))))⟩) (fun _ => rfl) (by kernel_rfl) (by kernel_rfl) (fun x r h => (f6.run x).trans h)
/-! f13: adit/aditlaw3.within -/
def f13 (a0 : Int) (a1 : Int) : Option (Int × Unit) :=
 bif Decidable.decide (a1 = 0) then
  none
 else
  Option.bind (α := Int × Unit ⊕ Int × Unit) (
   bif Decidable.decide (Int.tmod a0 a1 < 0) then
    some (Sum.inl (Go.IntKind.wrap Go.IntKind.i64 (Int.tmod a0 a1 + a1), ()))
   else
    some (Sum.inl (Int.tmod a0 a1, ()))
  ) fun y0 =>
   Sum.elim (fun y1 =>
    some ((y1.fst, ()))
   ) (fun z2 =>
    some (z2)
   ) (y0)
def f13.ins : Shape := ⟨[(0, .c (.int .i64)), (1, .c (.int .i64))], []⟩
def f13.outs : List Shape := [⟨[(0, .c (.int .i64))], []⟩]
def f13.S : FnSpec := ⟨f13.ins, f13.outs, [], fun x => f13 x.1 x.2.1⟩
def f13.E (fuel : Nat) : Env := ⟨tis, [], [], [(5, ⟨[(5, .c (.int .i64))], []⟩)], [], [], 0, [], fuel⟩
theorem f13.run : ∀ x, runFn (f13.E 100000000000000000000) Go.Proofs.Try.f13 ((Go.Proofs.Try.f13.body).getD .skip) f13.S x = f13.S.f x := by intro x; kernel_rfl
theorem f13.sound : Sound Go.Proofs.Try.prog 13 f13.S := sound_of_run (fun _ => f13.E 100000000000000000000) (by kernel_rfl) (by kernel_rfl) (by kernel_rfl) orders (fun _ => ⟨tis_ok, EqsOk.nil _, FnsOk.nil⟩) (fun _ => rfl) (by kernel_rfl) (by kernel_rfl) (fun x r h => (f13.run x).trans h)
/-! f21: adit/aditlaw3.far -/
def f21 (a0 : Int) (a1 : Int) : Option (Int × Unit) :=
 some ((Go.IntKind.wrap Go.IntKind.i64 (maxI (Go.IntKind.wrap Go.IntKind.i64 (Int.tmod a0 24 - Int.tmod a1 24)) (Go.IntKind.wrap Go.IntKind.i64 (0 - Go.IntKind.wrap Go.IntKind.i64 (Int.tmod a0 24 - Int.tmod a1 24))) + maxI (Go.IntKind.wrap Go.IntKind.i64 (Go.IntKind.wrap Go.IntKind.i64 (Int.tdiv a0 24) - Go.IntKind.wrap Go.IntKind.i64 (Int.tdiv a1 24))) (Go.IntKind.wrap Go.IntKind.i64 (0 - Go.IntKind.wrap Go.IntKind.i64 (Go.IntKind.wrap Go.IntKind.i64 (Int.tdiv a0 24) - Go.IntKind.wrap Go.IntKind.i64 (Int.tdiv a1 24))))), ()))
def f21.ins : Shape := ⟨[(0, .c (.int .i64)), (1, .c (.int .i64))], []⟩
def f21.outs : List Shape := [⟨[(0, .c (.int .i64))], []⟩]
def f21.S : FnSpec := ⟨f21.ins, f21.outs, [], fun x => f21 x.1 x.2.1⟩
def f21.E (fuel : Nat) : Env := ⟨tis, [], [], [], [], [], 0, [], fuel⟩
theorem f21.run : ∀ x, runFn (f21.E 100000000000000000000) Go.Proofs.Try.f21 ((Go.Proofs.Try.f21.body).getD .skip) f21.S x = f21.S.f x := by intro x; kernel_rfl
theorem f21.sound : Sound Go.Proofs.Try.prog 21 f21.S := sound_of_run (fun _ => f21.E 100000000000000000000) (by kernel_rfl) (by kernel_rfl) (by kernel_rfl) orders (fun _ => ⟨tis_ok, EqsOk.nil _, FnsOk.nil⟩) (fun _ => rfl) (by kernel_rfl) (by kernel_rfl) (fun x r h => (f21.run x).trans h)
/-! f8: adit/aditlaw3.GridWalls -/
def f8.L1 (x : Int × Int × Int × Int × List Int × List Int × List Int × Unit) : Option (Bool × Unit) :=
 it (X := Int × Int × Int × Int × List Int × List Int × List Int × Unit) (fun rec x =>
 bif Decidable.decide (x.snd.snd.snd.fst < 384) then
  bif Decidable.decide (Int.tmod x.snd.snd.snd.fst 24 > x.fst) then
   bif inRange x.snd.snd.snd.fst (List.length x.snd.snd.snd.snd.fst) then
    bif List.getD x.snd.snd.snd.snd.fst (Int.toNat x.snd.snd.snd.fst) 0 != -1 then
     some ((Bool.false, ()))
    else
     bif inRange x.snd.snd.snd.fst (List.length x.snd.snd.snd.snd.snd.snd.fst) then
      bif List.getD x.snd.snd.snd.snd.snd.snd.fst (Int.toNat x.snd.snd.snd.fst) 0 != -1 then
       some ((Bool.false, ()))
      else
       bif inRange x.snd.snd.snd.fst (List.length x.snd.snd.snd.snd.snd.fst) then
        Option.bind (f21 x.snd.snd.fst (Go.IntKind.wrap Go.IntKind.i64 (Go.IntKind.wrap Go.IntKind.i64 (x.snd.fst * 24) + x.fst))) fun y0 =>
         Option.bind (f21 (Go.IntKind.wrap Go.IntKind.i64 (Go.IntKind.wrap Go.IntKind.i64 (x.snd.fst * 24) + x.fst)) x.snd.snd.snd.fst) fun y1 =>
          bif List.getD x.snd.snd.snd.snd.snd.fst (Int.toNat x.snd.snd.snd.fst) 0 != Go.IntKind.wrap Go.IntKind.i64 (y0.fst + y1.fst) then
           some ((Bool.false, ()))
          else
           bif Decidable.decide (Int.tmod x.snd.snd.snd.fst 24 < x.fst) then
            bif inRange x.snd.snd.snd.fst (List.length x.snd.snd.snd.snd.fst) then
             Option.bind (f21 x.snd.snd.fst x.snd.snd.snd.fst) fun y2 =>
              bif List.getD x.snd.snd.snd.snd.fst (Int.toNat x.snd.snd.snd.fst) 0 != y2.fst then
               some ((Bool.false, ()))
              else
               rec (x.fst, x.snd.fst, x.snd.snd.fst, Go.IntKind.wrap Go.IntKind.i64 (x.snd.snd.snd.fst + 1), x.snd.snd.snd.snd.fst, x.snd.snd.snd.snd.snd.fst, x.snd.snd.snd.snd.snd.snd.fst, ())
            else
             none
           else
            rec (x.fst, x.snd.fst, x.snd.snd.fst, Go.IntKind.wrap Go.IntKind.i64 (x.snd.snd.snd.fst + 1), x.snd.snd.snd.snd.fst, x.snd.snd.snd.snd.snd.fst, x.snd.snd.snd.snd.snd.snd.fst, ())
       else
        none
     else
      none
   else
    none
  else
   bif Decidable.decide (Int.tmod x.snd.snd.snd.fst 24 < x.fst) then
    bif inRange x.snd.snd.snd.fst (List.length x.snd.snd.snd.snd.fst) then
     Option.bind (f21 x.snd.snd.fst x.snd.snd.snd.fst) fun y3 =>
      bif List.getD x.snd.snd.snd.snd.fst (Int.toNat x.snd.snd.snd.fst) 0 != y3.fst then
       some ((Bool.false, ()))
      else
       rec (x.fst, x.snd.fst, x.snd.snd.fst, Go.IntKind.wrap Go.IntKind.i64 (x.snd.snd.snd.fst + 1), x.snd.snd.snd.snd.fst, x.snd.snd.snd.snd.snd.fst, x.snd.snd.snd.snd.snd.snd.fst, ())
    else
     none
   else
    rec (x.fst, x.snd.fst, x.snd.snd.fst, Go.IntKind.wrap Go.IntKind.i64 (x.snd.snd.snd.fst + 1), x.snd.snd.snd.snd.fst, x.snd.snd.snd.snd.snd.fst, x.snd.snd.snd.snd.snd.snd.fst, ())
 else
  some ((Bool.true, ()))
 ) (100000000000000000000) (x)
def f8.L2 (x : Int × Int × Int × Int × List Int × Unit) : Option (Bool × Unit) :=
 it (X := Int × Int × Int × Int × List Int × Unit) (fun rec x =>
 bif Decidable.decide (x.snd.snd.snd.fst < 16) then
  bif inRange (Go.IntKind.wrap Go.IntKind.i64 (Go.IntKind.wrap Go.IntKind.i64 (x.snd.snd.snd.fst * 24) + x.fst)) (List.length x.snd.snd.snd.snd.fst) then
   rec (x.fst, x.snd.fst, x.snd.snd.fst, Go.IntKind.wrap Go.IntKind.i64 (x.snd.snd.snd.fst + 1), List.set x.snd.snd.snd.snd.fst (Int.toNat (Go.IntKind.wrap Go.IntKind.i64 (Go.IntKind.wrap Go.IntKind.i64 (x.snd.snd.snd.fst * 24) + x.fst))) 0, ())
  else
   none
 else
  Option.bind (f13 x.snd.snd.fst 16) fun y0 =>
   Option.bind (f17 x.snd.snd.snd.snd.fst [] [Go.IntKind.wrap Go.IntKind.i64 (y0.fst * 24)]) fun y1 =>
    bif inRange (Go.IntKind.wrap Go.IntKind.i64 (Go.IntKind.wrap Go.IntKind.i64 (x.snd.fst * 24) + x.fst)) (List.length x.snd.snd.snd.snd.fst) then
     Option.bind (f17 (List.set x.snd.snd.snd.snd.fst (Int.toNat (Go.IntKind.wrap Go.IntKind.i64 (Go.IntKind.wrap Go.IntKind.i64 (x.snd.fst * 24) + x.fst))) 2) [] [Go.IntKind.wrap Go.IntKind.i64 (y0.fst * 24)]) fun y2 =>
      bif inRange (Go.IntKind.wrap Go.IntKind.i64 (Go.IntKind.wrap Go.IntKind.i64 (x.snd.fst * 24) + x.fst)) (List.length (List.replicate (Int.toNat 384) Bool.false)) then
       Option.bind (f17 (List.set x.snd.snd.snd.snd.fst (Int.toNat (Go.IntKind.wrap Go.IntKind.i64 (Go.IntKind.wrap Go.IntKind.i64 (x.snd.fst * 24) + x.fst))) 2) (List.set (List.replicate (Int.toNat 384) Bool.false) (Int.toNat (Go.IntKind.wrap Go.IntKind.i64 (Go.IntKind.wrap Go.IntKind.i64 (x.snd.fst * 24) + x.fst))) Bool.true) [Go.IntKind.wrap Go.IntKind.i64 (y0.fst * 24)]) fun y3 =>
        f8.L1 ((x.fst, x.snd.fst, Go.IntKind.wrap Go.IntKind.i64 (y0.fst * 24), 0, y1.fst, y2.fst, y3.fst, ()))
      else
       none
    else
     none
 ) (100000000000000000000) (x)
def f8 (a0 : Int) (a1 : Int) (a2 : Int) : Option (Bool × Unit) :=
 Option.bind (f9) fun y0 =>
  bif !y0.fst then
   some ((Bool.false, ()))
  else
   Option.bind (f13 a0 22) fun y1 =>
    Option.bind (f13 a1 16) fun y2 =>
     Option.bind (f14 [1]) fun y3 =>
      f8.L2 ((Go.IntKind.wrap Go.IntKind.i64 (1 + y1.fst), y2.fst, a2, 0, y3.fst, ()))
def f8.ins : Shape := ⟨[(0, .c (.int .i64)), (1, .c (.int .i64)), (2, .c (.int .i64))], []⟩
def f8.outs : List Shape := [⟨[(0, .c (.bool))], []⟩]
def f8.S : FnSpec := ⟨f8.ins, f8.outs, [], fun x => f8 x.1 x.2.1 x.2.2.1⟩
def f8.E (fuel : Nat) : Env := ⟨tis, [(9, f9.S), (14, f14.S), (17, f17.S), (13, f13.S), (21, f21.S)], [], [], [(7, ⟨[(0, .c (.int .i64)), (1, .c (.int .i64)), (2, .c (.int .i64)), (7, .c (.own 0)), (8, .c (.int .i64))], [(0, .arr (.int .u8))]⟩), (18, ⟨[(0, .c (.int .i64)), (1, .c (.int .i64)), (2, .c (.int .i64)), (9, .c (.own 0)), (10, .c (.own 1)), (12, .c (.own 2)), (13, .c (.int .i64))], [(0, .arr (.int .i64)), (1, .arr (.int .i64)), (2, .arr (.int .i64))]⟩)], [], 0, [], fuel⟩
theorem f8.run : ∀ x, runFn (f8.E 100000000000000000000) Go.Proofs.Try.f8 ((Go.Proofs.Try.f8.body).getD .skip) f8.S x = f8.S.f x := by intro x; kernel_rfl
theorem f8.sound : Sound Go.Proofs.Try.prog 8 f8.S := sound_of_run (fun _ => f8.E 100000000000000000000) (by kernel_rfl) (by kernel_rfl) (by kernel_rfl) orders (fun _ => ⟨tis_ok, EqsOk.nil _, (FnsOk.cons f9.sound (FnsOk.cons f14.sound (FnsOk.cons f17.sound (FnsOk.cons f13.sound (FnsOk.cons f21.sound FnsOk.nil)))))⟩) (fun _ => rfl) (by kernel_rfl) (by kernel_rfl) (fun x r h => (f8.run x).trans h)
end
end Go.Proofs.Ytjpcmpeigoikkaa.Run

/- Functions of the program as Lean functions: printed by a tool of this session (own work). -/
import Derived.Test.YtfcfafacjeknaaaProg
import Derived.Test.YtfcfafacjeknaaaMxW
namespace Go.Proofs.Ytfcfafacjeknaaa.Run
open Go Go.Proofs.Ytfcfafacjeknaaa.Mx
set_option autoImplicit false
set_option linter.unusedVariables false
set_option maxRecDepth 100000
noncomputable section
def ty3 : TI := ⟨.int .i64, 1, 8, [.int .i64 0], some (.int .i64)⟩
def ty4 : TI := ⟨.bool, 1, 1, [.bool false], some .bool⟩
def ty5 : TI := ⟨.int .u8, 1, 1, [.int .u8 0], some (.int .u8)⟩
def ty9 : TI := ⟨.str, 1, 16, [.str ⟨#[]⟩], some .str⟩
def ty22 : TI := ⟨.slice 3, 1, 24, [.nils], some (.row (.int .i64))⟩
def ty23 : TI := ⟨.slice 36, 1, 24, [.nils], some (.row (.int .u32))⟩
def ty25 : TI := ⟨.ptr 82, 1, 8, [.nilp], none⟩
def ty29 : TI := ⟨.ptr 84, 1, 8, [.nilp], none⟩
def ty36 : TI := ⟨.int .u32, 1, 4, [.int .u32 0], some (.int .u32)⟩
def ty39 : TI := ⟨.slice 5, 1, 24, [.nils], some (.row (.int .u8))⟩
def ty40 : TI := ⟨.slice 39, 1, 24, [.nils], some (.row (.row (.int .u8)))⟩
def ty63 : TI := ⟨.slice 4, 1, 24, [.nils], some (.row .bool)⟩
def ty65 : TI := ⟨.ptr 91, 1, 8, [.nilp], none⟩
def ty69 : TI := ⟨.arr 4 3, 4, 32, [.int .i64 0, .int .i64 0, .int .i64 0, .int .i64 0], some (.prod (.int .i64) (.prod (.int .i64) (.prod (.int .i64) (.int .i64))))⟩
def ty73 : TI := ⟨.slice 75, 1, 24, [.nils], some (.row (.prod (.int .i64) (.prod (.int .i64) (.prod (.int .i64) (.prod (.int .i64) (.prod (.int .u32) (.prod (.int .i64) (.prod (.int .i64) (.prod (.int .i64) (.int .i64))))))))))⟩
def ty75 : TI := ⟨.struct [(0, 3), (1, 3), (2, 3), (3, 3), (4, 36), (5, 69)], 9, 72, [.int .i64 0, .int .i64 0, .int .i64 0, .int .i64 0, .int .u32 0, .int .i64 0, .int .i64 0, .int .i64 0, .int .i64 0], some (.prod (.int .i64) (.prod (.int .i64) (.prod (.int .i64) (.prod (.int .i64) (.prod (.int .u32) (.prod (.int .i64) (.prod (.int .i64) (.prod (.int .i64) (.int .i64)))))))))⟩
def ty82 : TI := ⟨.struct [(0, 63), (1, 3)], 2, 32, [.nils, .int .i64 0], some (.prod (.row .bool) (.int .i64))⟩
def ty84 : TI := ⟨.struct [(0, 63), (1, 3)], 2, 32, [.nils, .int .i64 0], some (.prod (.row .bool) (.int .i64))⟩
def ty91 : TI := ⟨.struct [(0, 25), (1, 3), (2, 3), (3, 4), (4, 3), (5, 3), (6, 3), (7, 3), (8, 69)], 12, 96, [.nilp, .int .i64 0, .int .i64 0, .bool false, .int .i64 0, .int .i64 0, .int .i64 0, .int .i64 0, .int .i64 0, .int .i64 0, .int .i64 0, .int .i64 0], none⟩
def tis : List (Nat × TI) := [(3, ty3), (4, ty4), (5, ty5), (9, ty9), (22, ty22), (23, ty23), (25, ty25), (29, ty29), (36, ty36), (39, ty39), (40, ty40), (63, ty63), (65, ty65), (69, ty69), (73, ty73), (75, ty75), (82, ty82), (84, ty84), (91, ty91)]
theorem ty3_ok : TIok Go.Proofs.Try.prog 3 ty3 := ⟨by kernel_rfl, by kernel_rfl, by kernel_rfl, by kernel_rfl, by kernel_rfl, by kernel_rfl, by kernel_rfl, by kernel_rfl⟩
theorem ty4_ok : TIok Go.Proofs.Try.prog 4 ty4 := ⟨by kernel_rfl, by kernel_rfl, by kernel_rfl, by kernel_rfl, by kernel_rfl, by kernel_rfl, by kernel_rfl, by kernel_rfl⟩
theorem ty5_ok : TIok Go.Proofs.Try.prog 5 ty5 := ⟨by kernel_rfl, by kernel_rfl, by kernel_rfl, by kernel_rfl, by kernel_rfl, by kernel_rfl, by kernel_rfl, by kernel_rfl⟩
theorem ty9_ok : TIok Go.Proofs.Try.prog 9 ty9 := ⟨by kernel_rfl, by kernel_rfl, by kernel_rfl, by kernel_rfl, by kernel_rfl, by kernel_rfl, by kernel_rfl, by kernel_rfl⟩
theorem ty22_ok : TIok Go.Proofs.Try.prog 22 ty22 := ⟨by kernel_rfl, by kernel_rfl, by kernel_rfl, by kernel_rfl, by kernel_rfl, by kernel_rfl, by kernel_rfl, by kernel_rfl⟩
theorem ty23_ok : TIok Go.Proofs.Try.prog 23 ty23 := ⟨by kernel_rfl, by kernel_rfl, by kernel_rfl, by kernel_rfl, by kernel_rfl, by kernel_rfl, by kernel_rfl, by kernel_rfl⟩
theorem ty25_ok : TIok Go.Proofs.Try.prog 25 ty25 := ⟨by kernel_rfl, by kernel_rfl, by kernel_rfl, by kernel_rfl, by kernel_rfl, by kernel_rfl, by kernel_rfl, by kernel_rfl⟩
theorem ty29_ok : TIok Go.Proofs.Try.prog 29 ty29 := ⟨by kernel_rfl, by kernel_rfl, by kernel_rfl, by kernel_rfl, by kernel_rfl, by kernel_rfl, by kernel_rfl, by kernel_rfl⟩
theorem ty36_ok : TIok Go.Proofs.Try.prog 36 ty36 := ⟨by kernel_rfl, by kernel_rfl, by kernel_rfl, by kernel_rfl, by kernel_rfl, by kernel_rfl, by kernel_rfl, by kernel_rfl⟩
theorem ty39_ok : TIok Go.Proofs.Try.prog 39 ty39 := ⟨by kernel_rfl, by kernel_rfl, by kernel_rfl, by kernel_rfl, by kernel_rfl, by kernel_rfl, by kernel_rfl, by kernel_rfl⟩
theorem ty40_ok : TIok Go.Proofs.Try.prog 40 ty40 := ⟨by kernel_rfl, by kernel_rfl, by kernel_rfl, by kernel_rfl, by kernel_rfl, by kernel_rfl, by kernel_rfl, by kernel_rfl⟩
theorem ty63_ok : TIok Go.Proofs.Try.prog 63 ty63 := ⟨by kernel_rfl, by kernel_rfl, by kernel_rfl, by kernel_rfl, by kernel_rfl, by kernel_rfl, by kernel_rfl, by kernel_rfl⟩
theorem ty65_ok : TIok Go.Proofs.Try.prog 65 ty65 := ⟨by kernel_rfl, by kernel_rfl, by kernel_rfl, by kernel_rfl, by kernel_rfl, by kernel_rfl, by kernel_rfl, by kernel_rfl⟩
theorem ty69_ok : TIok Go.Proofs.Try.prog 69 ty69 := ⟨by kernel_rfl, by kernel_rfl, by kernel_rfl, by kernel_rfl, by kernel_rfl, by kernel_rfl, by kernel_rfl, by kernel_rfl⟩
theorem ty73_ok : TIok Go.Proofs.Try.prog 73 ty73 := ⟨by kernel_rfl, by kernel_rfl, by kernel_rfl, by kernel_rfl, by kernel_rfl, by kernel_rfl, by kernel_rfl, by kernel_rfl⟩
theorem ty75_ok : TIok Go.Proofs.Try.prog 75 ty75 := ⟨by kernel_rfl, by kernel_rfl, by kernel_rfl, by kernel_rfl, by kernel_rfl, by kernel_rfl, by kernel_rfl, by kernel_rfl⟩
theorem ty82_ok : TIok Go.Proofs.Try.prog 82 ty82 := ⟨by kernel_rfl, by kernel_rfl, by kernel_rfl, by kernel_rfl, by kernel_rfl, by kernel_rfl, by kernel_rfl, by kernel_rfl⟩
theorem ty84_ok : TIok Go.Proofs.Try.prog 84 ty84 := ⟨by kernel_rfl, by kernel_rfl, by kernel_rfl, by kernel_rfl, by kernel_rfl, by kernel_rfl, by kernel_rfl, by kernel_rfl⟩
theorem ty91_ok : TIok Go.Proofs.Try.prog 91 ty91 := ⟨by kernel_rfl, by kernel_rfl, by kernel_rfl, by kernel_rfl, by kernel_rfl, by kernel_rfl, by kernel_rfl, by kernel_rfl⟩
theorem tis_ok : TIs Go.Proofs.Try.prog tis := (TIs.cons ty3_ok (TIs.cons ty4_ok (TIs.cons ty5_ok (TIs.cons ty9_ok (TIs.cons ty22_ok (TIs.cons ty23_ok (TIs.cons ty25_ok (TIs.cons ty29_ok (TIs.cons ty36_ok (TIs.cons ty39_ok (TIs.cons ty40_ok (TIs.cons ty63_ok (TIs.cons ty65_ok (TIs.cons ty69_ok (TIs.cons ty73_ok (TIs.cons ty75_ok (TIs.cons ty82_ok (TIs.cons ty84_ok (TIs.cons ty91_ok (TIs.nil _))))))))))))))))))))
theorem orders : Go.Proofs.Try.prog.follows .mixedOrders = true := by kernel_rfl
/-! f13: adit/chunk.NewSender -/
def f13 (a0 : Int) : Option (Int × Unit ⊕ Int × Int × List Bool × Unit) :=
 bif Decidable.decide (a0 < 1) then
  some (Sum.inl (1, ()))
 else
  bif Decidable.decide (a0 > 16) then
   some (Sum.inl (1, ()))
  else
   bif Decidable.decide (0 ≤ a0 ∧ a0 ≤ a0 ∧ a0 ≤ (↑(limit 1) : Int)) then
    some (Sum.inr (0, 0, List.replicate (Int.toNat a0) Bool.false, ()))
   else
    none
def f13.ins : Shape := ⟨[(0, .c (.int .i64))], []⟩
def f13.outs : List Shape := [⟨[(0, .c (.nilp)), (1, .c (.int .i64))], []⟩, ⟨[(0, .c (.ptr 0 0)), (1, .c (.int .i64))], [(0, .box [.own 1, .int .i64]), (1, .arr .bool)]⟩]
def f13.S : FnSpec := ⟨f13.ins, f13.outs, [], fun x => f13 x.1⟩
def f13.E (fuel : Nat) : Env := ⟨tis, [], [], [], [], [], 0, [], fuel⟩
theorem f13.run : ∀ x, runFn (f13.E 100000000000000000000) Go.Proofs.Try.f13 ((Go.Proofs.Try.f13.body).getD .skip) f13.S x = f13.S.f x := by intro x; kernel_rfl
theorem f13.sound : Sound Go.Proofs.Try.prog 13 f13.S := sound_of_run (fun _ => f13.E 100000000000000000000) (by kernel_rfl) (by kernel_rfl) (by kernel_rfl) orders (fun _ => ⟨tis_ok, EqsOk.nil _, FnsOk.nil⟩) (fun _ => rfl) (by kernel_rfl) (by kernel_rfl) (fun x r h => (f13.run x).trans h)
/-! f17: (*adit/chunk.Sender).Next -/
def f17.L1 (x : Int × Int × Int × Int × Int × List Bool × List Int × Unit) : Option (Int × List Bool × List Int × Unit ⊕ Int × List Bool × List Int × Unit) :=
 it (X := Int × Int × Int × Int × Int × List Bool × List Int × Unit) (fun rec x =>
 bif Decidable.decide (x.snd.snd.snd.fst < x.snd.snd.fst) then
  bif Decidable.decide ((↑(List.length x.snd.snd.snd.snd.snd.snd.fst) : Int) ≥ x.fst) then
   some (Sum.inl (x.snd.snd.snd.snd.fst, x.snd.snd.snd.snd.snd.fst, x.snd.snd.snd.snd.snd.snd.fst, ()))
  else
   Option.bind (α := Int × Int × Int × Int × Int × List Bool × List Int × Unit ⊕ Int × List Bool × List Int × Unit ⊕ Int × List Bool × List Int × Unit) (
    bif inRange x.snd.fst (List.length x.snd.snd.snd.snd.snd.fst) then
     bif !List.getD x.snd.snd.snd.snd.snd.fst (Int.toNat x.snd.fst) Bool.false then
      bif Decidable.decide (List.length x.snd.snd.snd.snd.snd.snd.fst + 1 ≤ limit 8) then
       bif Decidable.decide ((↑(List.length x.snd.snd.snd.snd.snd.fst) : Int) = 0) then
        none
       else
        some (Sum.inl (x.fst, x.snd.fst, x.snd.snd.fst, x.snd.snd.snd.fst, Int.tmod (Go.IntKind.wrap Go.IntKind.i64 (x.snd.fst + 1)) (↑(List.length x.snd.snd.snd.snd.snd.fst) : Int), x.snd.snd.snd.snd.snd.fst, x.snd.snd.snd.snd.snd.snd.fst ++ [x.snd.fst], ()))
      else
       none
     else
      some (Sum.inl (x.fst, x.snd.fst, x.snd.snd.fst, x.snd.snd.snd.fst, x.snd.snd.snd.snd.fst, x.snd.snd.snd.snd.snd.fst, x.snd.snd.snd.snd.snd.snd.fst, ()))
    else
     none
   ) fun y0 =>
    Sum.elim (fun y1 =>
     bif Decidable.decide ((↑(List.length y1.snd.snd.snd.snd.snd.fst) : Int) = 0) then
      none
     else
      rec (y1.fst, Int.tmod (Go.IntKind.wrap Go.IntKind.i64 (y1.snd.fst + 1)) (↑(List.length y1.snd.snd.snd.snd.snd.fst) : Int), y1.snd.snd.fst, Go.IntKind.wrap Go.IntKind.i64 (y1.snd.snd.snd.fst + 1), y1.snd.snd.snd.snd.fst, y1.snd.snd.snd.snd.snd.fst, y1.snd.snd.snd.snd.snd.snd.fst, ())
    ) (fun z2 =>
     some (z2)
    ) (y0)
 else
  some (Sum.inl (x.snd.snd.snd.snd.fst, x.snd.snd.snd.snd.snd.fst, x.snd.snd.snd.snd.snd.snd.fst, ()))
 ) (100000000000000000000) (x)
def f17 (a0 : Int) (a1 : Int) (a2 : List Bool) : Option (Int × List Bool × List Int × Unit) :=
 Option.bind (α := Int × List Bool × List Int × Unit ⊕ Int × List Bool × List Int × Unit) (
  f17.L1 ((a0, a1, (↑(List.length a2) : Int), 0, a1, a2, [], ()))
 ) fun y0 =>
  Sum.elim (fun y1 =>
   some ((y1.fst, y1.snd.fst, y1.snd.snd.fst, ()))
  ) (fun z2 =>
   some (z2)
  ) (y0)
def f17.ins : Shape := ⟨[(0, .c (.ptr 0 0)), (1, .c (.int .i64))], [(0, .box [.own 1, .int .i64]), (1, .arr .bool)]⟩
def f17.outs : List Shape := [⟨[(0, .c (.own 2))], [(0, .box [.own 1, .int .i64]), (1, .arr .bool), (2, .arr (.int .i64))]⟩]
def f17.S : FnSpec := ⟨f17.ins, f17.outs, [0, 1], fun x => f17 x.1 x.2.1 x.2.2.1⟩
def f17.E (fuel : Nat) : Env := ⟨tis, [], [], [(10, ⟨[(0, .c (.ptr 0 0)), (1, .c (.int .i64)), (5, .c (.own 2)), (6, .c (.int .i64)), (15, .c (.int .i64)), (16, .c (.int .i64))], [(0, .box [.own 1, .int .i64]), (1, .arr .bool), (2, .arr (.int .i64))]⟩), (12, ⟨[(5, .c (.own 2))], [(0, .box [.own 1, .int .i64]), (1, .arr .bool), (2, .arr (.int .i64))]⟩)], [(5, ⟨[(0, .c (.ptr 0 0)), (1, .c (.int .i64)), (5, .c (.own 2)), (6, .c (.int .i64)), (15, .c (.int .i64)), (16, .c (.int .i64))], [(0, .box [.own 1, .int .i64]), (1, .arr .bool), (2, .arr (.int .i64))]⟩)], [], 2, [0, 1], fuel⟩
theorem f17.run : ∀ x, runFn (f17.E 100000000000000000000) Go.Proofs.Try.f17 ((Go.Proofs.Try.f17.body).getD .skip) f17.S x = f17.S.f x := by intro x; kernel_rfl
theorem f17.sound : Sound Go.Proofs.Try.prog 17 f17.S := sound_of_run (fun _ => f17.E 100000000000000000000) (by kernel_rfl) (by kernel_rfl) (by kernel_rfl) orders (fun _ => ⟨tis_ok, EqsOk.nil _, FnsOk.nil⟩) (fun _ => rfl) (by kernel_rfl) (by kernel_rfl) (fun x r h => (f17.run x).trans h)
/-! f12: adit/aditlaw12.known -/
def f12 : Option (Bool × Unit) :=
 Option.bind (f13 5) fun y0 =>
  Sum.elim (fun y1 =>
   bif y1.fst != 0 then
    some ((Bool.false, ()))
   else
    some ((Bool.false, ()))
  ) (fun z2 =>
   bif z2.fst != 0 then
    some ((Bool.false, ()))
   else
    Option.bind (f17 3 z2.snd.fst z2.snd.snd.fst) fun y3 =>
     Option.bind (f17 3 y3.fst y3.snd.fst) fun y4 =>
      bif (↑(List.length y3.snd.snd.fst) : Int) == 3 then
       bif inRange 2 (List.length y3.snd.snd.fst) then
        bif List.getD y3.snd.snd.fst 2 0 == 2 then
         bif (↑(List.length y4.snd.snd.fst) : Int) == 3 then
          bif inRange 0 (List.length y4.snd.snd.fst) then
           bif List.getD y4.snd.snd.fst 0 0 == 3 then
            bif inRange 2 (List.length y4.snd.snd.fst) then
             some ((List.getD y4.snd.snd.fst 2 0 == 0, ()))
            else
             none
           else
            some ((Bool.false, ()))
          else
           none
         else
          some ((Bool.false, ()))
        else
         some ((Bool.false, ()))
       else
        none
      else
       some ((Bool.false, ()))
  ) (y0)
def f12.ins : Shape := ⟨[], []⟩
def f12.outs : List Shape := [⟨[(0, .c (.bool))], []⟩]
def f12.S : FnSpec := ⟨f12.ins, f12.outs, [], fun _ => f12⟩
def f12.E (fuel : Nat) : Env := ⟨tis, [(13, f13.S), (17, f17.S)], [], [], [], [], 0, [], fuel⟩
theorem f12.run : ∀ x, runFn (f12.E 100000000000000000000) Go.Proofs.Try.f12 ((Go.Proofs.Try.f12.body).getD .skip) f12.S x = f12.S.f x := by intro x; kernel_rfl
theorem f12.sound : Sound Go.Proofs.Try.prog 12 f12.S := sound_of_run (fun _ => f12.E 100000000000000000000) (by kernel_rfl) (by kernel_rfl) (by kernel_rfl) orders (fun _ => ⟨tis_ok, EqsOk.nil _, (FnsOk.cons f13.sound (FnsOk.cons f17.sound FnsOk.nil))⟩) (fun _ => rfl) (by kernel_rfl) (by kernel_rfl) (fun x r h => (f12.run x).trans h)
/-! f14: adit/aditref12.NewSender -/
def f14 (a0 : Int) : Option (Int × Unit ⊕ Int × Int × List Bool × Unit) :=
 bif Decidable.decide (a0 < 1) then
  some (Sum.inl (1, ()))
 else
  bif Decidable.decide (a0 > 16) then
   some (Sum.inl (1, ()))
  else
   bif Decidable.decide (0 ≤ a0 ∧ a0 ≤ a0 ∧ a0 ≤ (↑(limit 1) : Int)) then
    some (Sum.inr (0, 0, List.replicate (Int.toNat a0) Bool.false, ()))
   else
    none
def f14.ins : Shape := ⟨[(0, .c (.int .i64))], []⟩
def f14.outs : List Shape := [⟨[(0, .c (.nilp)), (1, .c (.int .i64))], []⟩, ⟨[(0, .c (.ptr 0 0)), (1, .c (.int .i64))], [(0, .box [.own 1, .int .i64]), (1, .arr .bool)]⟩]
def f14.S : FnSpec := ⟨f14.ins, f14.outs, [], fun x => f14 x.1⟩
def f14.E (fuel : Nat) : Env := ⟨tis, [], [], [], [], [], 0, [], fuel⟩
theorem f14.run : ∀ x, runFn (f14.E 100000000000000000000) Go.Proofs.Try.f14 ((Go.Proofs.Try.f14.body).getD .skip) f14.S x = f14.S.f x := by intro x; kernel_rfl
theorem f14.sound : Sound Go.Proofs.Try.prog 14 f14.S := sound_of_run (fun _ => f14.E 100000000000000000000) (by kernel_rfl) (by kernel_rfl) (by kernel_rfl) orders (fun _ => ⟨tis_ok, EqsOk.nil _, FnsOk.nil⟩) (fun _ => rfl) (by kernel_rfl) (by kernel_rfl) (fun x r h => (f14.run x).trans h)
/-! f15: adit/aditlaw12.within -/
def f15 (a0 : Int) (a1 : Int) : Option (Int × Unit) :=
 bif Decidable.decide (a1 = 0) then
  none
 else
  Option.bind (α := Int × Unit ⊕ Int × Unit) (
   bif Decidable.decide (Int.tmod a0 a1 < 0) then
    some (Sum.inl (Go.IntKind.wrap Go.IntKind.i64 (Int.tmod a0 a1 + a1), ()))
   else
    some (Sum.inl (Int.tmod a0 a1, ()))
  ) fun y0 =>
   Sum.elim (fun y1 =>
    some ((y1.fst, ()))
   ) (fun z2 =>
    some (z2)
   ) (y0)
def f15.ins : Shape := ⟨[(0, .c (.int .i64)), (1, .c (.int .i64))], []⟩
def f15.outs : List Shape := [⟨[(0, .c (.int .i64))], []⟩]
def f15.S : FnSpec := ⟨f15.ins, f15.outs, [], fun x => f15 x.1 x.2.1⟩
def f15.E (fuel : Nat) : Env := ⟨tis, [], [], [(5, ⟨[(5, .c (.int .i64))], []⟩)], [], [], 0, [], fuel⟩
theorem f15.run : ∀ x, runFn (f15.E 100000000000000000000) Go.Proofs.Try.f15 ((Go.Proofs.Try.f15.body).getD .skip) f15.S x = f15.S.f x := by intro x; kernel_rfl
theorem f15.sound : Sound Go.Proofs.Try.prog 15 f15.S := sound_of_run (fun _ => f15.E 100000000000000000000) (by kernel_rfl) (by kernel_rfl) (by kernel_rfl) orders (fun _ => ⟨tis_ok, EqsOk.nil _, FnsOk.nil⟩) (fun _ => rfl) (by kernel_rfl) (by kernel_rfl) (fun x r h => (f15.run x).trans h)
/-! f49: slices.Index[[]bool,bool] -/
def f49.L1 (x : List Bool × Bool × Int × Int × Unit) : Option (Int × Unit) :=
 it (X := List Bool × Bool × Int × Int × Unit) (fun rec x =>
 bif Decidable.decide (x.snd.snd.snd.fst < x.snd.snd.fst) then
  bif inRange x.snd.snd.snd.fst (List.length x.fst) then
   bif x.snd.fst == List.getD x.fst (Int.toNat x.snd.snd.snd.fst) Bool.false then
    some ((x.snd.snd.snd.fst, ()))
   else
    rec (x.fst, x.snd.fst, x.snd.snd.fst, Go.IntKind.wrap Go.IntKind.i64 (x.snd.snd.snd.fst + 1), ())
  else
   none
 else
  some ((-1, ()))
 ) (100000000000000000000) (x)
def f49 (a0 : List Bool) (a1 : Bool) : Option (Int × Unit) :=
 f49.L1 ((a0, a1, (↑(List.length a0) : Int), 0, ()))
def f49.ins : Shape := ⟨[(0, .c (.row .bool)), (1, .c (.bool))], []⟩
def f49.outs : List Shape := [⟨[(0, .c (.int .i64))], []⟩]
def f49.S : FnSpec := ⟨f49.ins, f49.outs, [], fun x => f49 x.1 x.2.1⟩
def f49.E (fuel : Nat) : Env := ⟨tis, [], [], [], [(3, ⟨[(0, .c (.row .bool)), (1, .c (.bool)), (7, .c (.int .i64)), (8, .c (.int .i64))], []⟩)], [], 0, [], fuel⟩
theorem f49.run : ∀ x, runFn (f49.E 100000000000000000000) Go.Proofs.Try.f49 ((Go.Proofs.Try.f49.body).getD .skip) f49.S x = f49.S.f x := by intro x; kernel_rfl
theorem f49.sound : Sound Go.Proofs.Try.prog 49 f49.S := sound_of_run (fun _ => f49.E 100000000000000000000) (by kernel_rfl) (by kernel_rfl) (by kernel_rfl) orders (fun _ => ⟨tis_ok, EqsOk.nil _, FnsOk.nil⟩) (fun _ => rfl) (by kernel_rfl) (by kernel_rfl) (fun x r h => (f49.run x).trans h)
/-! f46: slices.Contains[[]bool,bool] -/
def f46 (a0 : List Bool) (a1 : Bool) : Option (Bool × Unit) :=
 Option.bind (f49 a0 a1) fun y0 =>
  some ((Decidable.decide (y0.fst ≥ 0), ()))
def f46.ins : Shape := ⟨[(0, .c (.row .bool)), (1, .c (.bool))], []⟩
def f46.outs : List Shape := [⟨[(0, .c (.bool))], []⟩]
def f46.S : FnSpec := ⟨f46.ins, f46.outs, [], fun x => f46 x.1 x.2.1⟩
def f46.E (fuel : Nat) : Env := ⟨tis, [(49, f49.S)], [], [], [], [], 0, [], fuel⟩
theorem f46.run : ∀ x, runFn (f46.E 100000000000000000000) Go.Proofs.Try.f46 ((Go.Proofs.Try.f46.body).getD .skip) f46.S x = f46.S.f x := by intro x; kernel_rfl
theorem f46.sound : Sound Go.Proofs.Try.prog 46 f46.S := sound_of_run (fun _ => f46.E 100000000000000000000) (by kernel_rfl) (by kernel_rfl) (by kernel_rfl) orders (fun _ => ⟨tis_ok, EqsOk.nil _, (FnsOk.cons f49.sound FnsOk.nil)⟩) (fun _ => rfl) (by kernel_rfl) (by kernel_rfl) (fun x r h => (f46.run x).trans h)
/-! f19: (*adit/chunk.Sender).Done -/
def f19 (a0 : List Bool × Int) : Option (Bool × Unit) :=
 Option.bind (f46 a0.fst Bool.false) fun y0 =>
  some ((!y0.fst, ()))
def f19.ins : Shape := ⟨[(0, .c (.bptr (.prod (.row .bool) (.int .i64))))], []⟩
def f19.outs : List Shape := [⟨[(0, .c (.bool))], []⟩]
def f19.S : FnSpec := ⟨f19.ins, f19.outs, [], fun x => f19 x.1⟩
def f19.E (fuel : Nat) : Env := ⟨tis, [(46, f46.S)], [], [], [], [], 0, [], fuel⟩
theorem f19.run : ∀ x, runFn (f19.E 100000000000000000000) Go.Proofs.Try.f19 ((Go.Proofs.Try.f19.body).getD .skip) f19.S x = f19.S.f x := by intro x; kernel_rfl
theorem f19.sound : Sound Go.Proofs.Try.prog 19 f19.S := sound_of_run (fun _ => f19.E 100000000000000000000) (by kernel_rfl) (by kernel_rfl) (by kernel_rfl) orders (fun _ => ⟨tis_ok, EqsOk.nil _, (FnsOk.cons f46.sound FnsOk.nil)⟩) (fun _ => rfl) (by kernel_rfl) (by kernel_rfl) (fun x r h => (f19.run x).trans h)
/-! f18: (*adit/aditref12.Sender).Next -/
def f18.L1 (x : Int × Int × Int × Int × List Bool × List Int × Unit) : Option (Int × List Bool × List Int × Unit ⊕ Int × List Bool × List Int × Unit) :=
 it (X := Int × Int × Int × Int × List Bool × List Int × Unit) (fun rec x =>
 bif Decidable.decide (x.snd.snd.fst < (↑(List.length x.snd.snd.snd.snd.fst) : Int)) then
  bif Decidable.decide ((↑(List.length x.snd.snd.snd.snd.snd.fst) : Int) < x.fst) then
   bif Decidable.decide ((↑(List.length x.snd.snd.snd.snd.fst) : Int) = 0) then
    none
   else
    bif inRange (Int.tmod (Go.IntKind.wrap Go.IntKind.i64 (x.snd.fst + x.snd.snd.fst)) (↑(List.length x.snd.snd.snd.snd.fst) : Int)) (List.length x.snd.snd.snd.snd.fst) then
     bif !List.getD x.snd.snd.snd.snd.fst (Int.toNat (Int.tmod (Go.IntKind.wrap Go.IntKind.i64 (x.snd.fst + x.snd.snd.fst)) (↑(List.length x.snd.snd.snd.snd.fst) : Int))) Bool.false then
      bif Decidable.decide (List.length x.snd.snd.snd.snd.snd.fst + 1 ≤ limit 8) then
       bif Decidable.decide ((↑(List.length x.snd.snd.snd.snd.fst) : Int) = 0) then
        none
       else
        rec (x.fst, x.snd.fst, Go.IntKind.wrap Go.IntKind.i64 (x.snd.snd.fst + 1), Int.tmod (Go.IntKind.wrap Go.IntKind.i64 (Int.tmod (Go.IntKind.wrap Go.IntKind.i64 (x.snd.fst + x.snd.snd.fst)) (↑(List.length x.snd.snd.snd.snd.fst) : Int) + 1)) (↑(List.length x.snd.snd.snd.snd.fst) : Int), x.snd.snd.snd.snd.fst, x.snd.snd.snd.snd.snd.fst ++ [Int.tmod (Go.IntKind.wrap Go.IntKind.i64 (x.snd.fst + x.snd.snd.fst)) (↑(List.length x.snd.snd.snd.snd.fst) : Int)], ())
      else
       none
     else
      rec (x.fst, x.snd.fst, Go.IntKind.wrap Go.IntKind.i64 (x.snd.snd.fst + 1), x.snd.snd.snd.fst, x.snd.snd.snd.snd.fst, x.snd.snd.snd.snd.snd.fst, ())
    else
     none
  else
   some (Sum.inl (x.snd.snd.snd.fst, x.snd.snd.snd.snd.fst, x.snd.snd.snd.snd.snd.fst, ()))
 else
  some (Sum.inl (x.snd.snd.snd.fst, x.snd.snd.snd.snd.fst, x.snd.snd.snd.snd.snd.fst, ()))
 ) (100000000000000000000) (x)
def f18 (a0 : Int) (a1 : Int) (a2 : List Bool) : Option (Int × List Bool × List Int × Unit) :=
 Option.bind (α := Int × List Bool × List Int × Unit ⊕ Int × List Bool × List Int × Unit) (
  f18.L1 ((a0, a1, 0, a1, a2, [], ()))
 ) fun y0 =>
  Sum.elim (fun y1 =>
   some ((y1.fst, y1.snd.fst, y1.snd.snd.fst, ()))
  ) (fun z2 =>
   some (z2)
  ) (y0)
def f18.ins : Shape := ⟨[(0, .c (.ptr 0 0)), (1, .c (.int .i64))], [(0, .box [.own 1, .int .i64]), (1, .arr .bool)]⟩
def f18.outs : List Shape := [⟨[(0, .c (.own 2))], [(0, .box [.own 1, .int .i64]), (1, .arr .bool), (2, .arr (.int .i64))]⟩]
def f18.S : FnSpec := ⟨f18.ins, f18.outs, [0, 1], fun x => f18 x.1 x.2.1 x.2.2.1⟩
def f18.E (fuel : Nat) : Env := ⟨tis, [], [], [(11, ⟨[(5, .c (.own 2))], [(0, .box [.own 1, .int .i64]), (1, .arr .bool), (2, .arr (.int .i64))]⟩)], [(5, ⟨[(0, .c (.ptr 0 0)), (1, .c (.int .i64)), (5, .c (.own 2)), (6, .c (.int .i64)), (7, .c (.int .i64))], [(0, .box [.own 1, .int .i64]), (1, .arr .bool), (2, .arr (.int .i64))]⟩)], [], 2, [0, 1], fuel⟩
theorem f18.run : ∀ x, runFn (f18.E 100000000000000000000) Go.Proofs.Try.f18 ((Go.Proofs.Try.f18.body).getD .skip) f18.S x = f18.S.f x := by intro x; kernel_rfl
theorem f18.sound : Sound Go.Proofs.Try.prog 18 f18.S := sound_of_run (fun _ => f18.E 100000000000000000000) (by kernel_rfl) (by kernel_rfl) (by kernel_rfl) orders (fun _ => ⟨tis_ok, EqsOk.nil _, FnsOk.nil⟩) (fun _ => rfl) (by kernel_rfl) (by kernel_rfl) (fun x r h => (f18.run x).trans h)
/-! f16: adit/aditlaw12.sameInts -/
def f16.L1 (x : List Int × List Int × Int × Unit) : Option (Bool × Unit) :=
 it (X := List Int × List Int × Int × Unit) (fun rec x =>
 bif Decidable.decide (x.snd.snd.fst < (↑(List.length x.fst) : Int)) then
  bif inRange x.snd.snd.fst (List.length x.fst) then
   bif inRange x.snd.snd.fst (List.length x.snd.fst) then
    bif List.getD x.fst (Int.toNat x.snd.snd.fst) 0 != List.getD x.snd.fst (Int.toNat x.snd.snd.fst) 0 then
     some ((Bool.false, ()))
    else
     rec (x.fst, x.snd.fst, Go.IntKind.wrap Go.IntKind.i64 (x.snd.snd.fst + 1), ())
   else
    none
  else
   none
 else
  some ((Bool.true, ()))
 ) (100000000000000000000) (x)
def f16 (a0 : List Int) (a1 : List Int) : Option (Bool × Unit) :=
 bif (↑(List.length a0) : Int) != (↑(List.length a1) : Int) then
  some ((Bool.false, ()))
 else
  f16.L1 ((a0, a1, 0, ()))
def f16.ins : Shape := ⟨[(0, .c (.row (.int .i64))), (1, .c (.row (.int .i64)))], []⟩
def f16.outs : List Shape := [⟨[(0, .c (.bool))], []⟩]
def f16.S : FnSpec := ⟨f16.ins, f16.outs, [], fun x => f16 x.1 x.2.1⟩
def f16.E (fuel : Nat) : Env := ⟨tis, [], [], [], [(5, ⟨[(0, .c (.row (.int .i64))), (1, .c (.row (.int .i64))), (5, .c (.int .i64))], []⟩)], [], 0, [], fuel⟩
theorem f16.run : ∀ x, runFn (f16.E 100000000000000000000) Go.Proofs.Try.f16 ((Go.Proofs.Try.f16.body).getD .skip) f16.S x = f16.S.f x := by intro x; kernel_rfl
theorem f16.sound : Sound Go.Proofs.Try.prog 16 f16.S := sound_of_run (fun _ => f16.E 100000000000000000000) (by kernel_rfl) (by kernel_rfl) (by kernel_rfl) orders (fun _ => ⟨tis_ok, EqsOk.nil _, FnsOk.nil⟩) (fun _ => rfl) (by kernel_rfl) (by kernel_rfl) (fun x r h => (f16.run x).trans h)
/-! f20: (*adit/aditref12.Sender).Done -/
def f20.L1 (x : (List Bool × Int) × Int × Unit) : Option (Bool × Unit) :=
 it (X := (List Bool × Int) × Int × Unit) (fun rec x =>
 bif Decidable.decide (x.snd.fst < (↑(List.length x.fst.fst) : Int)) then
  bif inRange x.snd.fst (List.length x.fst.fst) then
   bif !List.getD x.fst.fst (Int.toNat x.snd.fst) Bool.false then
    some ((Bool.false, ()))
   else
    rec (x.fst, Go.IntKind.wrap Go.IntKind.i64 (x.snd.fst + 1), ())
  else
   none
 else
  some ((Bool.true, ()))
 ) (100000000000000000000) (x)
def f20 (a0 : List Bool × Int) : Option (Bool × Unit) :=
 f20.L1 ((a0, 0, ()))
def f20.ins : Shape := ⟨[(0, .c (.bptr (.prod (.row .bool) (.int .i64))))], []⟩
def f20.outs : List Shape := [⟨[(0, .c (.bool))], []⟩]
def f20.S : FnSpec := ⟨f20.ins, f20.outs, [], fun x => f20 x.1⟩
def f20.E (fuel : Nat) : Env := ⟨tis, [], [], [], [(3, ⟨[(0, .c (.bptr (.prod (.row .bool) (.int .i64)))), (3, .c (.int .i64))], []⟩)], [], 0, [], fuel⟩
theorem f20.run : ∀ x, runFn (f20.E 100000000000000000000) Go.Proofs.Try.f20 ((Go.Proofs.Try.f20.body).getD .skip) f20.S x = f20.S.f x := by intro x; kernel_rfl
theorem f20.sound : Sound Go.Proofs.Try.prog 20 f20.S := sound_of_run (fun _ => f20.E 100000000000000000000) (by kernel_rfl) (by kernel_rfl) (by kernel_rfl) orders (fun _ => ⟨tis_ok, EqsOk.nil _, FnsOk.nil⟩) (fun _ => rfl) (by kernel_rfl) (by kernel_rfl) (fun x r h => (f20.run x).trans h)
/-! f21: (*adit/chunk.Sender).Ack -/
def f21.L1 (x : Int × Int × Int × Int × List Bool × Unit) : Option (Int × List Bool × Unit) :=
 it (X := Int × Int × Int × Int × List Bool × Unit) (fun rec x =>
 bif Decidable.decide (x.snd.snd.fst < x.snd.fst) then
  bif inRange x.snd.snd.fst (List.length x.snd.snd.snd.snd.fst) then
   bif List.getD x.snd.snd.snd.snd.fst (Int.toNat x.snd.snd.fst) Bool.false then
    bif inRange x.snd.snd.fst (List.length x.snd.snd.snd.snd.fst) then
     rec (x.fst, x.snd.fst, Go.IntKind.wrap Go.IntKind.i64 (x.snd.snd.fst + 1), x.snd.snd.snd.fst, List.set x.snd.snd.snd.snd.fst (Int.toNat x.snd.snd.fst) Bool.true, ())
    else
     none
   else
    bif Decidable.decide (x.snd.snd.fst < 0) then
     none
    else
     bif inRange x.snd.snd.fst (List.length x.snd.snd.snd.snd.fst) then
      rec (x.fst, x.snd.fst, Go.IntKind.wrap Go.IntKind.i64 (x.snd.snd.fst + 1), x.snd.snd.snd.fst, List.set x.snd.snd.snd.snd.fst (Int.toNat x.snd.snd.fst) (Go.IntKind.wrap Go.IntKind.u32 (↑(BitVec.toNat (BitVec.ofInt (Go.IntKind.bits Go.IntKind.u32) (Int.fdiv x.fst (2 ^ Min.min (Int.toNat x.snd.snd.fst) (Go.IntKind.bits Go.IntKind.u32))) &&& BitVec.ofInt (Go.IntKind.bits Go.IntKind.u32) 1)) : Int) == 1), ())
     else
      none
  else
   none
 else
  some ((x.snd.snd.snd.fst, x.snd.snd.snd.snd.fst, ()))
 ) (100000000000000000000) (x)
def f21 (a0 : Int) (a1 : Int) (a2 : List Bool) : Option (Int × List Bool × Unit) :=
 f21.L1 ((a0, (↑(List.length a2) : Int), 0, a1, a2, ()))
def f21.ins : Shape := ⟨[(0, .c (.ptr 0 0)), (1, .c (.int .u32))], [(0, .box [.own 1, .int .i64]), (1, .arr .bool)]⟩
def f21.outs : List Shape := [⟨[], [(0, .box [.own 1, .int .i64]), (1, .arr .bool)]⟩]
def f21.S : FnSpec := ⟨f21.ins, f21.outs, [0, 1], fun x => f21 x.1 x.2.1 x.2.2.1⟩
def f21.E (fuel : Nat) : Env := ⟨tis, [], [], [], [(2, ⟨[(0, .c (.ptr 0 0)), (1, .c (.int .u32)), (9, .c (.int .i64)), (10, .c (.int .i64))], [(0, .box [.own 1, .int .i64]), (1, .arr .bool)]⟩)], [], 2, [0, 1], fuel⟩
theorem f21.run : ∀ x, runFn (f21.E 100000000000000000000) Go.Proofs.Try.f21 ((Go.Proofs.Try.f21.body).getD .skip) f21.S x = f21.S.f x := by intro x; kernel_rfl
theorem f21.sound : Sound Go.Proofs.Try.prog 21 f21.S := sound_of_run (fun _ => f21.E 100000000000000000000) (by kernel_rfl) (by kernel_rfl) (by kernel_rfl) orders (fun _ => ⟨tis_ok, EqsOk.nil _, FnsOk.nil⟩) (fun _ => rfl) (by kernel_rfl) (by kernel_rfl) (fun x r h => (f21.run x).trans h)
/-! f22: (*adit/aditref12.Sender).Ack -/
def f22.L1 (x : Int × Int × Int × List Bool × Unit) : Option (Int × List Bool × Unit) :=
 it (X := Int × Int × Int × List Bool × Unit) (fun rec x =>
 bif Decidable.decide (x.snd.fst < (↑(List.length x.snd.snd.snd.fst) : Int)) then
  bif inRange x.snd.fst (List.length x.snd.snd.snd.fst) then
   bif List.getD x.snd.snd.snd.fst (Int.toNat x.snd.fst) Bool.false then
    bif inRange x.snd.fst (List.length x.snd.snd.snd.fst) then
     rec (x.fst, Go.IntKind.wrap Go.IntKind.i64 (x.snd.fst + 1), x.snd.snd.fst, List.set x.snd.snd.snd.fst (Int.toNat x.snd.fst) Bool.true, ())
    else
     none
   else
    bif Decidable.decide (x.snd.fst < 0) then
     none
    else
     bif inRange x.snd.fst (List.length x.snd.snd.snd.fst) then
      rec (x.fst, Go.IntKind.wrap Go.IntKind.i64 (x.snd.fst + 1), x.snd.snd.fst, List.set x.snd.snd.snd.fst (Int.toNat x.snd.fst) (Go.IntKind.wrap Go.IntKind.u32 (↑(BitVec.toNat (BitVec.ofInt (Go.IntKind.bits Go.IntKind.u32) (Int.fdiv x.fst (2 ^ Min.min (Int.toNat x.snd.fst) (Go.IntKind.bits Go.IntKind.u32))) &&& BitVec.ofInt (Go.IntKind.bits Go.IntKind.u32) 1)) : Int) == 1), ())
     else
      none
  else
   none
 else
  some ((x.snd.snd.fst, x.snd.snd.snd.fst, ()))
 ) (100000000000000000000) (x)
def f22 (a0 : Int) (a1 : Int) (a2 : List Bool) : Option (Int × List Bool × Unit) :=
 f22.L1 ((a0, 0, a1, a2, ()))
def f22.ins : Shape := ⟨[(0, .c (.ptr 0 0)), (1, .c (.int .u32))], [(0, .box [.own 1, .int .i64]), (1, .arr .bool)]⟩
def f22.outs : List Shape := [⟨[], [(0, .box [.own 1, .int .i64]), (1, .arr .bool)]⟩]
def f22.S : FnSpec := ⟨f22.ins, f22.outs, [0, 1], fun x => f22 x.1 x.2.1 x.2.2.1⟩
def f22.E (fuel : Nat) : Env := ⟨tis, [], [], [], [(2, ⟨[(0, .c (.ptr 0 0)), (1, .c (.int .u32)), (4, .c (.int .i64))], [(0, .box [.own 1, .int .i64]), (1, .arr .bool)]⟩)], [], 2, [0, 1], fuel⟩
theorem f22.run : ∀ x, runFn (f22.E 100000000000000000000) Go.Proofs.Try.f22 ((Go.Proofs.Try.f22.body).getD .skip) f22.S x = f22.S.f x := by intro x; kernel_rfl
theorem f22.sound : Sound Go.Proofs.Try.prog 22 f22.S := sound_of_run (fun _ => f22.E 100000000000000000000) (by kernel_rfl) (by kernel_rfl) (by kernel_rfl) orders (fun _ => ⟨tis_ok, EqsOk.nil _, FnsOk.nil⟩) (fun _ => rfl) (by kernel_rfl) (by kernel_rfl) (fun x r h => (f22.run x).trans h)
/-! f3: adit/aditlaw12.ChunkSends -/
def f3.L1 (x : List Int × List Int × Int × Unit) : Option (Bool × Unit) :=
 it (X := List Int × List Int × Int × Unit) (fun rec x =>
 some ((Bool.true, ()))
 ) (100000000000000000000) (x)
def f3.L2 (x : List Int × List Int × Int × Int × Int × List Bool × List Bool × Unit) : Option (Bool × Unit) :=
 it (X := List Int × List Int × Int × Int × Int × List Bool × List Bool × Unit) (fun rec x =>
 bif Decidable.decide (x.snd.snd.fst < (↑(List.length x.fst) : Int)) then
  bif Decidable.decide (x.snd.snd.fst < 40) then
   bif inRange x.snd.snd.fst (List.length x.fst) then
    Option.bind (f15 (List.getD x.fst (Int.toNat x.snd.snd.fst) 0) 8) fun y0 =>
     Option.bind (f17 (Go.IntKind.wrap Go.IntKind.i64 (y0.fst - 1)) x.snd.snd.snd.fst x.snd.snd.snd.snd.snd.fst) fun y1 =>
      Option.bind (f18 (Go.IntKind.wrap Go.IntKind.i64 (y0.fst - 1)) x.snd.snd.snd.snd.fst x.snd.snd.snd.snd.snd.snd.fst) fun y2 =>
       Option.bind (f16 y1.snd.snd.fst y2.snd.snd.fst) fun y3 =>
        bif !y3.fst then
         some ((Bool.false, ()))
        else
         Option.bind (f19 (y1.snd.fst, y1.fst)) fun y4 =>
          Option.bind (f20 (y2.snd.fst, y2.fst)) fun y5 =>
           bif !y4.fst == y5.fst then
            some ((Bool.false, ()))
           else
            bif Decidable.decide (x.snd.snd.fst < (↑(List.length x.snd.fst) : Int)) then
             bif inRange x.snd.snd.fst (List.length x.snd.fst) then
              Option.bind (f21 (List.getD x.snd.fst (Int.toNat x.snd.snd.fst) 0) y1.fst y1.snd.fst) fun y6 =>
               bif inRange x.snd.snd.fst (List.length x.snd.fst) then
                Option.bind (f22 (List.getD x.snd.fst (Int.toNat x.snd.snd.fst) 0) y2.fst y2.snd.fst) fun y7 =>
                 rec (x.fst, x.snd.fst, Go.IntKind.wrap Go.IntKind.i64 (x.snd.snd.fst + 1), y6.fst, y7.fst, y6.snd.fst, y7.snd.fst, ())
               else
                none
             else
              none
            else
             rec (x.fst, x.snd.fst, Go.IntKind.wrap Go.IntKind.i64 (x.snd.snd.fst + 1), y1.fst, y2.fst, y1.snd.fst, y2.snd.fst, ())
   else
    none
  else
   Option.bind (f19 (x.snd.snd.snd.snd.snd.fst, x.snd.snd.snd.fst)) fun y8 =>
    Option.bind (f20 (x.snd.snd.snd.snd.snd.snd.fst, x.snd.snd.snd.snd.fst)) fun y9 =>
     some ((y8.fst == y9.fst, ()))
 else
  Option.bind (f19 (x.snd.snd.snd.snd.snd.fst, x.snd.snd.snd.fst)) fun y10 =>
   Option.bind (f20 (x.snd.snd.snd.snd.snd.snd.fst, x.snd.snd.snd.snd.fst)) fun y11 =>
    some ((y10.fst == y11.fst, ()))
 ) (100000000000000000000) (x)
def f3 (a0 : Int) (a1 : List Int) (a2 : List Int) : Option (Bool × Unit) :=
 Option.bind (f12) fun y0 =>
  bif !y0.fst then
   some ((Bool.false, ()))
  else
   Option.bind (f13 a0) fun y1 =>
    Sum.elim (fun y2 =>
     Option.bind (f14 a0) fun y4 =>
      Sum.elim (fun y5 =>
       bif y2.fst != y5.fst then
        some ((Bool.false, ()))
       else
        f3.L1 ((a1, a2, 0, ()))
      ) (fun z6 =>
       bif y2.fst != z6.fst then
        some ((Bool.false, ()))
       else
        some ((Bool.false, ()))
      ) (y4)
    ) (fun z3 =>
     Option.bind (f14 a0) fun y9 =>
      Sum.elim (fun y10 =>
       bif z3.fst != y10.fst then
        some ((Bool.false, ()))
       else
        some ((Bool.false, ()))
      ) (fun z11 =>
       bif z3.fst != z11.fst then
        some ((Bool.false, ()))
       else
        f3.L2 ((a1, a2, 0, z3.snd.fst, z11.snd.fst, z3.snd.snd.fst, z11.snd.snd.fst, ()))
      ) (y9)
    ) (y1)
def f3.ins : Shape := ⟨[(0, .c (.int .i64)), (1, .c (.row (.int .i64))), (2, .c (.row (.int .u32)))], []⟩
def f3.outs : List Shape := [⟨[(0, .c (.bool))], []⟩]
def f3.S : FnSpec := ⟨f3.ins, f3.outs, [], fun x => f3 x.1 x.2.1 x.2.2.1⟩
def f3.E (fuel : Nat) : Env := ⟨tis, [(13, f13.S), (17, f17.S), (12, f12.S), (14, f14.S), (15, f15.S), (19, f19.S), (18, f18.S), (16, f16.S), (20, f20.S), (21, f21.S), (22, f22.S)], [], [], [(9, ⟨[(1, .c (.row (.int .i64))), (2, .c (.row (.int .u32))), (7, .c (.nilp)), (9, .c (.nilp)), (11, .c (.int .i64))], []⟩), (9, ⟨[(1, .c (.row (.int .i64))), (2, .c (.row (.int .u32))), (7, .c (.nilp)), (9, .c (.ptr 0 0)), (11, .c (.int .i64))], [(0, .box [.own 1, .int .i64]), (1, .arr .bool)]⟩), (9, ⟨[(1, .c (.row (.int .i64))), (2, .c (.row (.int .u32))), (7, .c (.ptr 0 0)), (9, .c (.nilp)), (11, .c (.int .i64))], [(0, .box [.own 1, .int .i64]), (1, .arr .bool)]⟩), (9, ⟨[(1, .c (.row (.int .i64))), (2, .c (.row (.int .u32))), (7, .c (.ptr 0 0)), (9, .c (.ptr 1 0)), (11, .c (.int .i64))], [(0, .box [.own 2, .int .i64]), (1, .box [.own 3, .int .i64]), (2, .arr .bool), (3, .arr .bool)]⟩)], [], 0, [], fuel⟩
theorem f3.run : ∀ x, runFn (f3.E 100000000000000000000) Go.Proofs.Try.f3 ((Go.Proofs.Try.f3.body).getD .skip) f3.S x = f3.S.f x := by intro x; kernel_rfl
theorem f3.sound : Sound Go.Proofs.Try.prog 3 f3.S := sound_of_run (fun _ => f3.E 100000000000000000000) (by kernel_rfl) (by kernel_rfl) (by kernel_rfl) orders (fun _ => ⟨tis_ok, EqsOk.nil _, (FnsOk.cons f13.sound (FnsOk.cons f17.sound (FnsOk.cons f12.sound (FnsOk.cons f14.sound (FnsOk.cons f15.sound (FnsOk.cons f19.sound (FnsOk.cons f18.sound (FnsOk.cons f16.sound (FnsOk.cons f20.sound (FnsOk.cons f21.sound (FnsOk.cons f22.sound FnsOk.nil)))))))))))⟩) (fun _ => rfl) (by kernel_rfl) (by kernel_rfl) (fun x r h => (f3.run x).trans h)
/-! f4: adit/aditlaw12.ChunkRounds -/
def f4.L1 (k0 : Int × Int × Int × Int × Int × Int × List Int × List Bool × Unit → Option (Bool × Unit)) (x : Int × Int × Int × Int × Int × Int × Int × List Int × List Int × List Bool × Unit) : Option (Bool × Unit) :=
 it (X := Int × Int × Int × Int × Int × Int × Int × List Int × List Int × List Bool × Unit) (fun rec x =>
 bif Decidable.decide (x.snd.snd.snd.snd.snd.fst < (↑(List.length x.snd.snd.snd.snd.snd.snd.snd.snd.fst) : Int)) then
  bif inRange x.snd.snd.snd.snd.snd.fst (List.length x.snd.snd.snd.snd.snd.snd.snd.snd.fst) then
   bif inRange (List.getD x.snd.snd.snd.snd.snd.snd.snd.snd.fst (Int.toNat x.snd.snd.snd.snd.snd.fst) 0) (List.length x.snd.snd.snd.snd.snd.snd.snd.fst) then
    bif inRange (List.getD x.snd.snd.snd.snd.snd.snd.snd.snd.fst (Int.toNat x.snd.snd.snd.snd.snd.fst) 0) (List.length x.snd.snd.snd.snd.snd.snd.snd.fst) then
     rec (x.fst, x.snd.fst, x.snd.snd.fst, x.snd.snd.snd.fst, x.snd.snd.snd.snd.fst, Go.IntKind.wrap Go.IntKind.i64 (x.snd.snd.snd.snd.snd.fst + 1), x.snd.snd.snd.snd.snd.snd.fst, List.set x.snd.snd.snd.snd.snd.snd.snd.fst (Int.toNat (List.getD x.snd.snd.snd.snd.snd.snd.snd.snd.fst (Int.toNat x.snd.snd.snd.snd.snd.fst) 0)) (Go.IntKind.wrap Go.IntKind.i64 (List.getD x.snd.snd.snd.snd.snd.snd.snd.fst (Int.toNat (List.getD x.snd.snd.snd.snd.snd.snd.snd.snd.fst (Int.toNat x.snd.snd.snd.snd.snd.fst) 0)) 0 + 1)), x.snd.snd.snd.snd.snd.snd.snd.snd.fst, x.snd.snd.snd.snd.snd.snd.snd.snd.snd.fst, ())
    else
     none
   else
    none
  else
   none
 else
  bif (↑(List.length x.snd.snd.snd.snd.snd.snd.snd.snd.fst) : Int) != minI x.snd.fst x.snd.snd.snd.fst then
   some ((Bool.false, ()))
  else
   k0 (x.fst, x.snd.fst, x.snd.snd.fst, x.snd.snd.snd.fst, Go.IntKind.wrap Go.IntKind.i64 (x.snd.snd.snd.snd.fst + 1), x.snd.snd.snd.snd.snd.snd.fst, x.snd.snd.snd.snd.snd.snd.snd.fst, x.snd.snd.snd.snd.snd.snd.snd.snd.snd.fst, ())
 ) (100000000000000000000) (x)
def f4.L2 (x : Int × Int × Int × Int × Int × Int × List Int × List Bool × Unit) : Option (Bool × Unit) :=
 it (X := Int × Int × Int × Int × Int × Int × List Int × List Bool × Unit) (fun rec x =>
 bif Decidable.decide (x.snd.snd.snd.snd.fst < x.fst) then
  bif Decidable.decide (x.snd.snd.snd.snd.fst < 0) then
   none
  else
   bif Go.IntKind.wrap Go.IntKind.u32 (↑(BitVec.toNat (BitVec.ofInt (Go.IntKind.bits Go.IntKind.u32) (Int.fdiv x.snd.snd.fst (2 ^ Min.min (Int.toNat x.snd.snd.snd.snd.fst) (Go.IntKind.bits Go.IntKind.u32))) &&& BitVec.ofInt (Go.IntKind.bits Go.IntKind.u32) 1)) : Int) == 1 then
    bif inRange x.snd.snd.snd.snd.fst (List.length x.snd.snd.snd.snd.snd.snd.fst) then
     bif Decidable.decide (List.getD x.snd.snd.snd.snd.snd.snd.fst (Int.toNat x.snd.snd.snd.snd.fst) 0 > 0) then
      some ((Bool.false, ()))
     else
      bif !Go.IntKind.wrap Go.IntKind.u32 (↑(BitVec.toNat (BitVec.ofInt (Go.IntKind.bits Go.IntKind.u32) (Int.fdiv x.snd.snd.fst (2 ^ Min.min (Int.toNat x.snd.snd.snd.snd.fst) (Go.IntKind.bits Go.IntKind.u32))) &&& BitVec.ofInt (Go.IntKind.bits Go.IntKind.u32) 1)) : Int) == 1 then
       bif inRange x.snd.snd.snd.snd.fst (List.length x.snd.snd.snd.snd.snd.snd.fst) then
        bif Decidable.decide (List.getD x.snd.snd.snd.snd.snd.snd.fst (Int.toNat x.snd.snd.snd.snd.fst) 0 < 1) then
         some ((Bool.false, ()))
        else
         bif inRange x.snd.snd.snd.snd.fst (List.length x.snd.snd.snd.snd.snd.snd.fst) then
          bif Decidable.decide (List.getD x.snd.snd.snd.snd.snd.snd.fst (Int.toNat x.snd.snd.snd.snd.fst) 0 > 2) then
           some ((Bool.false, ()))
          else
           rec (x.fst, x.snd.fst, x.snd.snd.fst, x.snd.snd.snd.fst, Go.IntKind.wrap Go.IntKind.i64 (x.snd.snd.snd.snd.fst + 1), x.snd.snd.snd.snd.snd.fst, x.snd.snd.snd.snd.snd.snd.fst, x.snd.snd.snd.snd.snd.snd.snd.fst, ())
         else
          none
       else
        none
      else
       rec (x.fst, x.snd.fst, x.snd.snd.fst, x.snd.snd.snd.fst, Go.IntKind.wrap Go.IntKind.i64 (x.snd.snd.snd.snd.fst + 1), x.snd.snd.snd.snd.snd.fst, x.snd.snd.snd.snd.snd.snd.fst, x.snd.snd.snd.snd.snd.snd.snd.fst, ())
    else
     none
   else
    bif !Go.IntKind.wrap Go.IntKind.u32 (↑(BitVec.toNat (BitVec.ofInt (Go.IntKind.bits Go.IntKind.u32) (Int.fdiv x.snd.snd.fst (2 ^ Min.min (Int.toNat x.snd.snd.snd.snd.fst) (Go.IntKind.bits Go.IntKind.u32))) &&& BitVec.ofInt (Go.IntKind.bits Go.IntKind.u32) 1)) : Int) == 1 then
     bif inRange x.snd.snd.snd.snd.fst (List.length x.snd.snd.snd.snd.snd.snd.fst) then
      bif Decidable.decide (List.getD x.snd.snd.snd.snd.snd.snd.fst (Int.toNat x.snd.snd.snd.snd.fst) 0 < 1) then
       some ((Bool.false, ()))
      else
       bif inRange x.snd.snd.snd.snd.fst (List.length x.snd.snd.snd.snd.snd.snd.fst) then
        bif Decidable.decide (List.getD x.snd.snd.snd.snd.snd.snd.fst (Int.toNat x.snd.snd.snd.snd.fst) 0 > 2) then
         some ((Bool.false, ()))
        else
         rec (x.fst, x.snd.fst, x.snd.snd.fst, x.snd.snd.snd.fst, Go.IntKind.wrap Go.IntKind.i64 (x.snd.snd.snd.snd.fst + 1), x.snd.snd.snd.snd.snd.fst, x.snd.snd.snd.snd.snd.snd.fst, x.snd.snd.snd.snd.snd.snd.snd.fst, ())
       else
        none
     else
      none
    else
     rec (x.fst, x.snd.fst, x.snd.snd.fst, x.snd.snd.snd.fst, Go.IntKind.wrap Go.IntKind.i64 (x.snd.snd.snd.snd.fst + 1), x.snd.snd.snd.snd.snd.fst, x.snd.snd.snd.snd.snd.snd.fst, x.snd.snd.snd.snd.snd.snd.snd.fst, ())
 else
  Option.bind (f19 (x.snd.snd.snd.snd.snd.snd.snd.fst, x.snd.snd.snd.snd.snd.fst)) fun y0 =>
   bif y0.fst == (x.snd.snd.snd.fst == 0) then
    bif Decidable.decide (x.snd.snd.snd.fst > 0) then
     some ((Bool.true, ()))
    else
     Option.bind (f17 x.snd.fst x.snd.snd.snd.snd.snd.fst x.snd.snd.snd.snd.snd.snd.snd.fst) fun y1 =>
      some (((↑(List.length y1.snd.snd.fst) : Int) == 0, ()))
   else
    some ((Bool.false, ()))
 ) (100000000000000000000) (x)
def f4.L3 (x : Int × Int × Int × Int × Int × Int × List Int × List Bool × Unit) : Option (Bool × Unit) :=
 it (X := Int × Int × Int × Int × Int × Int × List Int × List Bool × Unit) (fun rec x =>
 bif Decidable.decide (Go.IntKind.wrap Go.IntKind.i64 (x.snd.snd.snd.snd.fst * x.snd.fst) < x.snd.snd.snd.fst) then
  Option.bind (f17 x.snd.fst x.snd.snd.snd.snd.snd.fst x.snd.snd.snd.snd.snd.snd.snd.fst) fun y0 =>
   f4.L1 rec ((x.fst, x.snd.fst, x.snd.snd.fst, x.snd.snd.snd.fst, x.snd.snd.snd.snd.fst, 0, y0.fst, x.snd.snd.snd.snd.snd.snd.fst, y0.snd.snd.fst, y0.snd.fst, ()))
 else
  f4.L2 ((x.fst, x.snd.fst, x.snd.snd.fst, x.snd.snd.snd.fst, 0, x.snd.snd.snd.snd.snd.fst, x.snd.snd.snd.snd.snd.snd.fst, x.snd.snd.snd.snd.snd.snd.snd.fst, ()))
 ) (100000000000000000000) (x)
def f4.L4 (x : Int × Int × Int × Int × Int × Int × List Int × List Bool × Unit) : Option (Bool × Unit) :=
 it (X := Int × Int × Int × Int × Int × Int × List Int × List Bool × Unit) (fun rec x =>
 bif Decidable.decide (x.snd.snd.snd.snd.fst < x.fst) then
  bif Decidable.decide (x.snd.snd.snd.snd.fst < 0) then
   none
  else
   bif Go.IntKind.wrap Go.IntKind.u32 (↑(BitVec.toNat (BitVec.ofInt (Go.IntKind.bits Go.IntKind.u32) (Int.fdiv x.snd.snd.fst (2 ^ Min.min (Int.toNat x.snd.snd.snd.snd.fst) (Go.IntKind.bits Go.IntKind.u32))) &&& BitVec.ofInt (Go.IntKind.bits Go.IntKind.u32) 1)) : Int) == 0 then
    rec (x.fst, x.snd.fst, x.snd.snd.fst, Go.IntKind.wrap Go.IntKind.i64 (x.snd.snd.snd.fst + 1), Go.IntKind.wrap Go.IntKind.i64 (x.snd.snd.snd.snd.fst + 1), x.snd.snd.snd.snd.snd.fst, x.snd.snd.snd.snd.snd.snd.fst, x.snd.snd.snd.snd.snd.snd.snd.fst, ())
   else
    rec (x.fst, x.snd.fst, x.snd.snd.fst, x.snd.snd.snd.fst, Go.IntKind.wrap Go.IntKind.i64 (x.snd.snd.snd.snd.fst + 1), x.snd.snd.snd.snd.snd.fst, x.snd.snd.snd.snd.snd.snd.fst, x.snd.snd.snd.snd.snd.snd.snd.fst, ())
 else
  f4.L3 ((x.fst, x.snd.fst, x.snd.snd.fst, x.snd.snd.snd.fst, 0, x.snd.snd.snd.snd.snd.fst, x.snd.snd.snd.snd.snd.snd.fst, x.snd.snd.snd.snd.snd.snd.snd.fst, ()))
 ) (100000000000000000000) (x)
def f4 (a0 : Int) (a1 : Int) (a2 : Int) : Option (Bool × Unit) :=
 Option.bind (f12) fun y0 =>
  bif !y0.fst then
   some ((Bool.false, ()))
  else
   Option.bind (f15 a0 16) fun y1 =>
    Option.bind (f15 a1 8) fun y2 =>
     Option.bind (f13 (Go.IntKind.wrap Go.IntKind.i64 (1 + y1.fst))) fun y3 =>
      Sum.elim (fun y4 =>
       bif y4.fst != 0 then
        some ((Bool.false, ()))
       else
        none
      ) (fun z5 =>
       bif z5.fst != 0 then
        some ((Bool.false, ()))
       else
        Option.bind (f21 a2 z5.snd.fst z5.snd.snd.fst) fun y6 =>
         bif Decidable.decide (0 ≤ Go.IntKind.wrap Go.IntKind.i64 (1 + y1.fst) ∧ Go.IntKind.wrap Go.IntKind.i64 (1 + y1.fst) ≤ Go.IntKind.wrap Go.IntKind.i64 (1 + y1.fst) ∧ Go.IntKind.wrap Go.IntKind.i64 (1 + y1.fst) ≤ (↑(limit 8) : Int)) then
          f4.L4 ((Go.IntKind.wrap Go.IntKind.i64 (1 + y1.fst), Go.IntKind.wrap Go.IntKind.i64 (1 + y2.fst), a2, 0, 0, y6.fst, List.replicate (Int.toNat (Go.IntKind.wrap Go.IntKind.i64 (1 + y1.fst))) 0, y6.snd.fst, ()))
         else
          none
      ) (y3)
def f4.ins : Shape := ⟨[(0, .c (.int .i64)), (1, .c (.int .i64)), (2, .c (.int .u32))], []⟩
def f4.outs : List Shape := [⟨[(0, .c (.bool))], []⟩]
def f4.S : FnSpec := ⟨f4.ins, f4.outs, [], fun x => f4 x.1 x.2.1 x.2.2.1⟩
def f4.E (fuel : Nat) : Env := ⟨tis, [(13, f13.S), (17, f17.S), (12, f12.S), (15, f15.S), (19, f19.S), (21, f21.S)], [], [], [(12, ⟨[(0, .c (.int .i64)), (1, .c (.int .i64)), (2, .c (.int .u32)), (7, .c (.ptr 0 0)), (9, .c (.own 1)), (10, .c (.int .i64)), (11, .c (.int .i64))], [(0, .box [.own 2, .int .i64]), (1, .arr (.int .i64)), (2, .arr .bool)]⟩), (17, ⟨[(0, .c (.int .i64)), (1, .c (.int .i64)), (2, .c (.int .u32)), (7, .c (.ptr 0 0)), (9, .c (.own 1)), (10, .c (.int .i64)), (12, .c (.int .i64))], [(0, .box [.own 2, .int .i64]), (1, .arr (.int .i64)), (2, .arr .bool)]⟩), (21, ⟨[(0, .c (.int .i64)), (1, .c (.int .i64)), (2, .c (.int .u32)), (7, .c (.ptr 0 0)), (9, .c (.own 1)), (10, .c (.int .i64)), (12, .c (.int .i64)), (13, .c (.own 2)), (14, .c (.int .i64))], [(0, .box [.own 3, .int .i64]), (1, .arr (.int .i64)), (2, .arr (.int .i64)), (3, .arr .bool)]⟩), (27, ⟨[(0, .c (.int .i64)), (1, .c (.int .i64)), (2, .c (.int .u32)), (7, .c (.ptr 0 0)), (9, .c (.own 1)), (10, .c (.int .i64)), (15, .c (.int .i64))], [(0, .box [.own 2, .int .i64]), (1, .arr (.int .i64)), (2, .arr .bool)]⟩)], [], 0, [], fuel⟩
theorem f4.run : ∀ x, runFn (f4.E 100000000000000000000) Go.Proofs.Try.f4 ((Go.Proofs.Try.f4.body).getD .skip) f4.S x = f4.S.f x := by intro x; kernel_rfl
theorem f4.sound : Sound Go.Proofs.Try.prog 4 f4.S := sound_of_run (fun _ => f4.E 100000000000000000000) (by kernel_rfl) (by kernel_rfl) (by kernel_rfl) orders (fun _ => ⟨tis_ok, EqsOk.nil _, (FnsOk.cons f13.sound (FnsOk.cons f17.sound (FnsOk.cons f12.sound (FnsOk.cons f15.sound (FnsOk.cons f19.sound (FnsOk.cons f21.sound FnsOk.nil))))))⟩) (fun _ => rfl) (by kernel_rfl) (by kernel_rfl) (fun x r h => (f4.run x).trans h)
/-! f47: slices.Clone[[]byte,byte] -/
def f47 (a0 : List Int) : Option (List Int × Unit) := cloneF (.int .u8) 1 a0
def f47.S : FnSpec := ⟨cloneIns (.int .u8), cloneOuts (.int .u8), [], fun x => f47 x.1⟩
def f47.E : Env := ⟨tis, [], [], [], [], [], 0, [], 1⟩
theorem f47.sound : Sound Go.Proofs.Try.prog 47 f47.S := clone_sound (fn := Go.Proofs.Try.f47) (t := 39) (q := 5) (u := 4) (bytes := 1) (i := ty39) f47.E (by kernel_rfl) (by kernel_rfl) (by kernel_rfl) orders (by kernel_rfl) ⟨tis_ok, EqsOk.nil _, FnsOk.nil⟩ rfl (by kernel_rfl) (by kernel_rfl) (by intro l A K; kernel_rfl) (by kernel_rfl) (by intro l; kernel_rfl)
/-! f23_1: adit/chunk.Split -/
def f23_1.L1 (x : List Int × List (List Int) × Unit) : Option (Int × List (List Int) × Unit) :=
 it (X := List Int × List (List Int) × Unit) (fun rec x =>
 bif Decidable.decide ((↑(List.length x.fst) : Int) > 64) then
  bif Decidable.decide ((0 : Int) ≤ 0 ∧ (0 : Int) ≤ 64 ∧ 64 ≤ (↑(List.length x.fst) : Int)) then
   Option.bind (f47 (List.drop 0 (List.take 64 x.fst))) fun y0 =>
    bif Decidable.decide (List.length x.snd.fst + 1 ≤ limit 24) then
     bif Decidable.decide ((0 : Int) ≤ 64 ∧ 64 ≤ (↑(List.length x.fst) : Int) ∧ (↑(List.length x.fst) : Int) ≤ (↑(List.length x.fst) : Int)) then
      rec (List.drop 64 (List.take (List.length x.fst) x.fst), x.snd.fst ++ [y0.fst], ())
     else
      none
    else
     none
  else
   none
 else
  Option.bind (f47 x.fst) fun y1 =>
   bif Decidable.decide (List.length x.snd.fst + 1 ≤ limit 24) then
    some ((0, x.snd.fst ++ [y1.fst], ()))
   else
    none
 ) (100000000000000000000) (x)
def f23_1 (a0 : List Int) : Option (Int × List (List Int) × Unit) :=
 bif Decidable.decide ((↑(List.length a0) : Int) > 1024) then
  some ((4, [], ()))
 else
  f23_1.L1 ((a0, [], ()))
def f23_1.ins : Shape := ⟨[(0, .c (.own 0))], [(0, .arr (.int .u8))]⟩
def f23_1.outs : List Shape := [⟨[(0, .c (.own 1)), (1, .c (.int .i64))], [(1, .arr (.row (.int .u8)))]⟩]
def f23_1.S : FnSpec := ⟨f23_1.ins, f23_1.outs, [], fun x => f23_1 x.1⟩
def f23_1.E (fuel : Nat) : Env := ⟨tis, [(47, f47.S)], [], [], [(5, ⟨[(0, .c (.row (.int .u8))), (4, .c (.own 1))], [(1, .arr (.row (.int .u8)))]⟩)], [], 1, [], fuel⟩
theorem f23_1.run : ∀ x, runFn (f23_1.E 100000000000000000000) Go.Proofs.Try.f23 ((Go.Proofs.Try.f23.body).getD .skip) f23_1.S x = f23_1.S.f x := by intro x; kernel_rfl
theorem f23_1.sound : Sound Go.Proofs.Try.prog 23 f23_1.S := sound_of_run (fun _ => f23_1.E 100000000000000000000) (by kernel_rfl) (by kernel_rfl) (by kernel_rfl) orders (fun _ => ⟨tis_ok, EqsOk.nil _, (FnsOk.cons f47.sound FnsOk.nil)⟩) (fun _ => rfl) (by kernel_rfl) (by kernel_rfl) (fun x r h => (f23_1.run x).trans h)
/-! f24: adit/aditref12.Split -/
def f24.L1 (x : List Int × Int × List (List Int) × Unit) : Option (Int × List (List Int) × Unit) :=
 it (X := List Int × Int × List (List Int) × Unit) (fun rec x =>
 bif Decidable.decide (x.snd.fst < (↑(List.length x.fst) : Int)) then
  bif Decidable.decide (0 ≤ x.snd.fst ∧ x.snd.fst ≤ minI (Go.IntKind.wrap Go.IntKind.i64 (x.snd.fst + 64)) (↑(List.length x.fst) : Int) ∧ minI (Go.IntKind.wrap Go.IntKind.i64 (x.snd.fst + 64)) (↑(List.length x.fst) : Int) ≤ (↑(List.length x.fst) : Int)) then
   bif Decidable.decide (0 + List.length (List.drop (Int.toNat x.snd.fst) (List.take (Int.toNat (minI (Go.IntKind.wrap Go.IntKind.i64 (x.snd.fst + 64)) (↑(List.length x.fst) : Int))) x.fst)) ≤ limit 1) then
    bif Decidable.decide (List.length x.snd.snd.fst + 1 ≤ limit 24) then
     rec (x.fst, Go.IntKind.wrap Go.IntKind.i64 (x.snd.fst + 64), x.snd.snd.fst ++ [List.drop (Int.toNat x.snd.fst) (List.take (Int.toNat (minI (Go.IntKind.wrap Go.IntKind.i64 (x.snd.fst + 64)) (↑(List.length x.fst) : Int))) x.fst)], ())
    else
     none
   else
    none
  else
   none
 else
  some ((0, x.snd.snd.fst, ()))
 ) (100000000000000000000) (x)
def f24 (a0 : List Int) : Option (Int × List (List Int) × Unit) :=
 bif Decidable.decide ((↑(List.length a0) : Int) > 1024) then
  some ((4, [], ()))
 else
  bif (↑(List.length a0) : Int) == 0 then
   some ((0, [[]], ()))
  else
   f24.L1 ((a0, 0, [], ()))
def f24.ins : Shape := ⟨[(0, .c (.row (.int .u8)))], []⟩
def f24.outs : List Shape := [⟨[(0, .c (.own 0)), (1, .c (.int .i64))], [(0, .arr (.row (.int .u8)))]⟩]
def f24.S : FnSpec := ⟨f24.ins, f24.outs, [], fun x => f24 x.1⟩
def f24.E (fuel : Nat) : Env := ⟨tis, [], [], [], [(8, ⟨[(0, .c (.row (.int .u8))), (4, .c (.own 0)), (5, .c (.int .i64))], [(0, .arr (.row (.int .u8)))]⟩)], [], 0, [], fuel⟩
theorem f24.run : ∀ x, runFn (f24.E 100000000000000000000) Go.Proofs.Try.f24 ((Go.Proofs.Try.f24.body).getD .skip) f24.S x = f24.S.f x := by intro x; kernel_rfl
theorem f24.sound : Sound Go.Proofs.Try.prog 24 f24.S := sound_of_run (fun _ => f24.E 100000000000000000000) (by kernel_rfl) (by kernel_rfl) (by kernel_rfl) orders (fun _ => ⟨tis_ok, EqsOk.nil _, FnsOk.nil⟩) (fun _ => rfl) (by kernel_rfl) (by kernel_rfl) (fun x r h => (f24.run x).trans h)
/-! f5: adit/aditlaw12.ChunkSplits -/
def f5.L1 (x : List Int × Int × Int × List (List Int) × List (List Int) × List Int × Unit) : Option (Bool × Unit) :=
 it (X := List Int × Int × Int × List (List Int) × List (List Int) × List Int × Unit) (fun rec x =>
 bif Decidable.decide (x.snd.snd.fst < (↑(List.length x.snd.snd.snd.fst) : Int)) then
  bif inRange x.snd.snd.fst (List.length x.snd.snd.snd.fst) then
   bif inRange x.snd.snd.fst (List.length x.snd.snd.snd.snd.fst) then
    bif !ByteArray.toList (bytesOf (List.getD x.snd.snd.snd.fst (Int.toNat x.snd.snd.fst) [])) == ByteArray.toList (bytesOf (List.getD x.snd.snd.snd.snd.fst (Int.toNat x.snd.snd.fst) [])) then
     some ((Bool.false, ()))
    else
     bif inRange x.snd.snd.fst (List.length x.snd.snd.snd.fst) then
      bif Decidable.decide (List.length x.snd.snd.snd.snd.snd.fst + List.length (List.getD x.snd.snd.snd.fst (Int.toNat x.snd.snd.fst) []) ≤ limit 1) then
       rec (x.fst, x.snd.fst, Go.IntKind.wrap Go.IntKind.i64 (x.snd.snd.fst + 1), x.snd.snd.snd.fst, x.snd.snd.snd.snd.fst, x.snd.snd.snd.snd.snd.fst ++ List.getD x.snd.snd.snd.fst (Int.toNat x.snd.snd.fst) [], ())
      else
       none
     else
      none
   else
    none
  else
   none
 else
  bif x.snd.fst != 0 then
   some ((Bool.true, ()))
  else
   some ((ByteArray.toList (bytesOf x.snd.snd.snd.snd.snd.fst) == ByteArray.toList (bytesOf x.fst), ()))
 ) (100000000000000000000) (x)
def f5 (a0 : List Int) : Option (Bool × Unit) :=
 Option.bind (f12) fun y0 =>
  bif !y0.fst then
   some ((Bool.false, ()))
  else
   bif Decidable.decide ((↑(List.length a0) : Int) > 3000) then
    some ((Bool.true, ()))
   else
    bif Decidable.decide (0 + List.length a0 ≤ limit 1) then
     Option.bind (f23_1 a0) fun y1 =>
      Option.bind (f24 a0) fun y2 =>
       bif y1.fst != y2.fst then
        some ((Bool.false, ()))
       else
        bif (↑(List.length y1.snd.fst) : Int) != (↑(List.length y2.snd.fst) : Int) then
         some ((Bool.false, ()))
        else
         f5.L1 ((a0, y2.fst, 0, y1.snd.fst, y2.snd.fst, [], ()))
    else
     none
def f5.ins : Shape := ⟨[(0, .c (.row (.int .u8)))], []⟩
def f5.outs : List Shape := [⟨[(0, .c (.bool))], []⟩]
def f5.S : FnSpec := ⟨f5.ins, f5.outs, [], fun x => f5 x.1⟩
def f5.E (fuel : Nat) : Env := ⟨tis, [(12, f12.S), (23, f23_1.S), (24, f24.S)], [], [], [(12, ⟨[(0, .c (.row (.int .u8))), (3, .c (.own 0)), (5, .c (.own 1)), (6, .c (.int .i64)), (7, .c (.own 2)), (8, .c (.int .i64))], [(0, .arr (.row (.int .u8))), (1, .arr (.row (.int .u8))), (2, .arr (.int .u8))]⟩)], [], 0, [], fuel⟩
theorem f5.run : ∀ x, runFn (f5.E 100000000000000000000) Go.Proofs.Try.f5 ((Go.Proofs.Try.f5.body).getD .skip) f5.S x = f5.S.f x := by intro x; kernel_rfl
theorem f5.sound : Sound Go.Proofs.Try.prog 5 f5.S := sound_of_run (fun _ => f5.E 100000000000000000000) (by kernel_rfl) (by kernel_rfl) (by kernel_rfl) orders (fun _ => ⟨tis_ok, EqsOk.nil _, (FnsOk.cons f12.sound (FnsOk.cons f23_1.sound (FnsOk.cons f24.sound FnsOk.nil)))⟩) (fun _ => rfl) (by kernel_rfl) (by kernel_rfl) (fun x r h => (f5.run x).trans h)
/-! f34: adit/remote.New -/
def f34 (a0 : Int) (a1 : Bool) (a2 : Int) (a3 : Int) : Option (Int × Unit ⊕ Int × Int × Int × Bool × Int × Int × Int × Int × Int × Int × Int × Int × Unit ⊕ Int × Int × Int × Bool × Int × Int × Int × Int × Int × Int × Int × Int × Int × List Bool × Unit) :=
 Option.bind (f13 a3) fun y0 =>
  Sum.elim (fun y1 =>
   bif y1.fst != 0 then
    some (Sum.inl (1, ()))
   else
    bif Decidable.decide (a2 < 0) then
     some (Sum.inl (1, ()))
    else
     bif Decidable.decide (a0 < 0) then
      some (Sum.inl (1, ()))
     else
      some (Sum.inr (Sum.inl (0, a0, a2, a1, 2, -1, 0, a2, a2, a2, a2, a2, ())))
  ) (fun z2 =>
   bif z2.fst != 0 then
    some (Sum.inl (1, ()))
   else
    bif Decidable.decide (a2 < 0) then
     some (Sum.inl (1, ()))
    else
     bif Decidable.decide (a0 < 0) then
      some (Sum.inl (1, ()))
     else
      some (Sum.inr (Sum.inr (0, a0, a2, a1, 2, -1, 0, a2, a2, a2, a2, a2, z2.snd.fst, z2.snd.snd.fst, ())))
  ) (y0)
def f34.ins : Shape := ⟨[(0, .c (.int .i64)), (1, .c (.bool)), (2, .c (.int .i64)), (3, .c (.int .i64))], []⟩
def f34.outs : List Shape := [⟨[(0, .c (.nilp)), (1, .c (.int .i64))], []⟩, ⟨[(0, .c (.ptr 0 0)), (1, .c (.int .i64))], [(0, .box [.nilp, .int .i64, .int .i64, .bool, .int .i64, .int .i64, .int .i64, .int .i64, .int .i64, .int .i64, .int .i64, .int .i64])]⟩, ⟨[(0, .c (.ptr 0 0)), (1, .c (.int .i64))], [(0, .box [.ptr 1 0, .int .i64, .int .i64, .bool, .int .i64, .int .i64, .int .i64, .int .i64, .int .i64, .int .i64, .int .i64, .int .i64]), (1, .box [.own 2, .int .i64]), (2, .arr .bool)]⟩]
def f34.S : FnSpec := ⟨f34.ins, f34.outs, [], fun x => f34 x.1 x.2.1 x.2.2.1 x.2.2.2.1⟩
def f34.E (fuel : Nat) : Env := ⟨tis, [(13, f13.S)], [], [], [], [], 0, [], fuel⟩
theorem f34.run : ∀ x, runFn (f34.E 100000000000000000000) Go.Proofs.Try.f34 ((Go.Proofs.Try.f34.body).getD .skip) f34.S x = f34.S.f x := by intro x; kernel_rfl
theorem f34.sound : Sound Go.Proofs.Try.prog 34 f34.S := sound_of_run (fun _ => f34.E 100000000000000000000) (by kernel_rfl) (by kernel_rfl) (by kernel_rfl) orders (fun _ => ⟨tis_ok, EqsOk.nil _, (FnsOk.cons f13.sound FnsOk.nil)⟩) (fun _ => rfl) (by kernel_rfl) (by kernel_rfl) (fun x r h => (f34.run x).trans h)
/-! f45: (*adit/remote.Remote).Chunks -/
def f45 (a0 : Int) (a1 : Int) (a2 : Bool) (a3 : Int) (a4 : Int) (a5 : Int) (a6 : Int) (a7 : Int) (a8 : Int) (a9 : Int) (a10 : Int) : Option (Int × Int × Bool × Int × Int × Int × Int × Int × Int × Int × Int × Unit) :=
 bif a3 != 2 then
  some ((a0, a1, a2, a3, a4, a5, a6, a7, a8, a9, a10, ()))
 else
  none
def f45.ins : Shape := ⟨[(0, .c (.ptr 0 0))], [(0, .box [.nilp, .int .i64, .int .i64, .bool, .int .i64, .int .i64, .int .i64, .int .i64, .int .i64, .int .i64, .int .i64, .int .i64])]⟩
def f45.outs : List Shape := [⟨[(0, .c (.nils))], [(0, .box [.nilp, .int .i64, .int .i64, .bool, .int .i64, .int .i64, .int .i64, .int .i64, .int .i64, .int .i64, .int .i64, .int .i64])]⟩]
def f45.S : FnSpec := ⟨f45.ins, f45.outs, [0], fun x => f45 x.1 x.2.1 x.2.2.1 x.2.2.2.1 x.2.2.2.2.1 x.2.2.2.2.2.1 x.2.2.2.2.2.2.1 x.2.2.2.2.2.2.2.1 x.2.2.2.2.2.2.2.2.1 x.2.2.2.2.2.2.2.2.2.1 x.2.2.2.2.2.2.2.2.2.2.1⟩
def f45.E (fuel : Nat) : Env := ⟨tis, [], [], [], [], [], 1, [0], fuel⟩
theorem f45.run : ∀ x, runFn (f45.E 100000000000000000000) Go.Proofs.Try.f45 ((Go.Proofs.Try.f45.body).getD .skip) f45.S x = f45.S.f x := by intro x; kernel_rfl
theorem f45.sound : Sound Go.Proofs.Try.prog 45 f45.S := sound_of_run (fun _ => f45.E 100000000000000000000) (by kernel_rfl) (by kernel_rfl) (by kernel_rfl) orders (fun _ => ⟨tis_ok, EqsOk.nil _, FnsOk.nil⟩) (fun _ => rfl) (by kernel_rfl) (by kernel_rfl) (fun x r h => (f45.run x).trans h)
/-! f35: (*adit/remote.Remote).Heard -/
def f35 (a0 : Int) (a1 : Int) (a2 : Int) (a3 : Int) (a4 : Int) (a5 : Int) (a6 : Int) (a7 : Int) (a8 : Int) (a9 : Bool) (a10 : Int) (a11 : Int) (a12 : Int) (a13 : Int) (a14 : Int) (a15 : Int) (a16 : Int) (a17 : Int) : Option (Int × Int × Bool × Int × Int × Int × Int × Int × Int × Int × Int × Unit) :=
 bif a10 == 7 then
  some ((a7, a8, a9, a10, a11, a12, a13, a14, a15, a16, a17, ()))
 else
  none
def f35.ins : Shape := ⟨[(0, .c (.ptr 0 0)), (1, .c (.int .u32)), (2, .c (.int .i64)), (3, .agg [.int .i64, .int .i64, .int .i64, .int .i64]), (4, .c (.int .i64))], [(0, .box [.nilp, .int .i64, .int .i64, .bool, .int .i64, .int .i64, .int .i64, .int .i64, .int .i64, .int .i64, .int .i64, .int .i64])]⟩
def f35.outs : List Shape := [⟨[], [(0, .box [.nilp, .int .i64, .int .i64, .bool, .int .i64, .int .i64, .int .i64, .int .i64, .int .i64, .int .i64, .int .i64, .int .i64])]⟩]
def f35.S : FnSpec := ⟨f35.ins, f35.outs, [0], fun x => f35 x.1 x.2.1 x.2.2.1 x.2.2.2.1 x.2.2.2.2.1 x.2.2.2.2.2.1 x.2.2.2.2.2.2.1 x.2.2.2.2.2.2.2.1 x.2.2.2.2.2.2.2.2.1 x.2.2.2.2.2.2.2.2.2.1 x.2.2.2.2.2.2.2.2.2.2.1 x.2.2.2.2.2.2.2.2.2.2.2.1 x.2.2.2.2.2.2.2.2.2.2.2.2.1 x.2.2.2.2.2.2.2.2.2.2.2.2.2.1 x.2.2.2.2.2.2.2.2.2.2.2.2.2.2.1 x.2.2.2.2.2.2.2.2.2.2.2.2.2.2.2.1 x.2.2.2.2.2.2.2.2.2.2.2.2.2.2.2.2.1 x.2.2.2.2.2.2.2.2.2.2.2.2.2.2.2.2.2.1⟩
def f35.E (fuel : Nat) : Env := ⟨tis, [], [], [], [], [], 1, [0], fuel⟩
theorem f35.run : ∀ x, runFn (f35.E 100000000000000000000) Go.Proofs.Try.f35 ((Go.Proofs.Try.f35.body).getD .skip) f35.S x = f35.S.f x := by intro x; kernel_rfl
theorem f35.sound : Sound Go.Proofs.Try.prog 35 f35.S := sound_of_run (fun _ => f35.E 100000000000000000000) (by kernel_rfl) (by kernel_rfl) (by kernel_rfl) orders (fun _ => ⟨tis_ok, EqsOk.nil _, FnsOk.nil⟩) (fun _ => rfl) (by kernel_rfl) (by kernel_rfl) (fun x r h => (f35.run x).trans h)
/-! f37: (*adit/remote.Remote).Stage -/
def f37 (a0 : Int) (a1 : Int) (a2 : Bool) (a3 : Int) (a4 : Int) (a5 : Int) (a6 : Int) (a7 : Int) (a8 : Int) (a9 : Int) (a10 : Int) : Option (Int × Int × Int × Bool × Int × Int × Int × Int × Int × Int × Int × Int × Unit) :=
 some ((a3, a0, a1, a2, a3, a4, a5, a6, a7, a8, a9, a10, ()))
def f37.ins : Shape := ⟨[(0, .c (.ptr 0 0))], [(0, .box [.nilp, .int .i64, .int .i64, .bool, .int .i64, .int .i64, .int .i64, .int .i64, .int .i64, .int .i64, .int .i64, .int .i64])]⟩
def f37.outs : List Shape := [⟨[(0, .c (.int .i64))], [(0, .box [.nilp, .int .i64, .int .i64, .bool, .int .i64, .int .i64, .int .i64, .int .i64, .int .i64, .int .i64, .int .i64, .int .i64])]⟩]
def f37.S : FnSpec := ⟨f37.ins, f37.outs, [0], fun x => f37 x.1 x.2.1 x.2.2.1 x.2.2.2.1 x.2.2.2.2.1 x.2.2.2.2.2.1 x.2.2.2.2.2.2.1 x.2.2.2.2.2.2.2.1 x.2.2.2.2.2.2.2.2.1 x.2.2.2.2.2.2.2.2.2.1 x.2.2.2.2.2.2.2.2.2.2.1⟩
def f37.E (fuel : Nat) : Env := ⟨tis, [], [], [], [], [], 1, [0], fuel⟩
theorem f37.run : ∀ x, runFn (f37.E 100000000000000000000) Go.Proofs.Try.f37 ((Go.Proofs.Try.f37.body).getD .skip) f37.S x = f37.S.f x := by intro x; kernel_rfl
theorem f37.sound : Sound Go.Proofs.Try.prog 37 f37.S := sound_of_run (fun _ => f37.E 100000000000000000000) (by kernel_rfl) (by kernel_rfl) (by kernel_rfl) orders (fun _ => ⟨tis_ok, EqsOk.nil _, FnsOk.nil⟩) (fun _ => rfl) (by kernel_rfl) (by kernel_rfl) (fun x r h => (f37.run x).trans h)
/-! f40: (*adit/remote.Remote).Since -/
def f40 (a0 : Int) (a1 : Int) (a2 : Int) (a3 : Bool) (a4 : Int) (a5 : Int) (a6 : Int) (a7 : Int) (a8 : Int) (a9 : Int) (a10 : Int) (a11 : Int) : Option (Int × Int × Int × Bool × Int × Int × Int × Int × Int × Int × Int × Int × Unit) :=
 bif Decidable.decide (a0 < 0) then
  some ((0, a1, a2, a3, a4, a5, a6, a7, a8, a9, a10, a11, ()))
 else
  bif Decidable.decide (a0 ≥ 4) then
   some ((0, a1, a2, a3, a4, a5, a6, a7, a8, a9, a10, a11, ()))
  else
   bif inRange a0 4 then
    some ((List.getD [a8, a9, a10, a11] (Int.toNat a0) 0, a1, a2, a3, a4, a5, a6, a7, a8, a9, a10, a11, ()))
   else
    none
def f40.ins : Shape := ⟨[(0, .c (.ptr 0 0)), (1, .c (.int .i64))], [(0, .box [.nilp, .int .i64, .int .i64, .bool, .int .i64, .int .i64, .int .i64, .int .i64, .int .i64, .int .i64, .int .i64, .int .i64])]⟩
def f40.outs : List Shape := [⟨[(0, .c (.int .i64))], [(0, .box [.nilp, .int .i64, .int .i64, .bool, .int .i64, .int .i64, .int .i64, .int .i64, .int .i64, .int .i64, .int .i64, .int .i64])]⟩]
def f40.S : FnSpec := ⟨f40.ins, f40.outs, [0], fun x => f40 x.1 x.2.1 x.2.2.1 x.2.2.2.1 x.2.2.2.2.1 x.2.2.2.2.2.1 x.2.2.2.2.2.2.1 x.2.2.2.2.2.2.2.1 x.2.2.2.2.2.2.2.2.1 x.2.2.2.2.2.2.2.2.2.1 x.2.2.2.2.2.2.2.2.2.2.1 x.2.2.2.2.2.2.2.2.2.2.2.1⟩
def f40.E (fuel : Nat) : Env := ⟨tis, [], [], [], [], [], 1, [0], fuel⟩
theorem f40.run : ∀ x, runFn (f40.E 100000000000000000000) Go.Proofs.Try.f40 ((Go.Proofs.Try.f40.body).getD .skip) f40.S x = f40.S.f x := by intro x; kernel_rfl
theorem f40.sound : Sound Go.Proofs.Try.prog 40 f40.S := sound_of_run (fun _ => f40.E 100000000000000000000) (by kernel_rfl) (by kernel_rfl) (by kernel_rfl) orders (fun _ => ⟨tis_ok, EqsOk.nil _, FnsOk.nil⟩) (fun _ => rfl) (by kernel_rfl) (by kernel_rfl) (fun x r h => (f40.run x).trans h)
/-! f45_1: (*adit/remote.Remote).Chunks -/
def f45_1 (a0 : Int) (a1 : Int) (a2 : Bool) (a3 : Int) (a4 : Int) (a5 : Int) (a6 : Int) (a7 : Int) (a8 : Int) (a9 : Int) (a10 : Int) (a11 : Int) (a12 : List Bool) : Option (Int × Int × Bool × Int × Int × Int × Int × Int × Int × Int × Int × Int × List Bool × List Int × Unit) :=
 bif a3 != 2 then
  some ((a0, a1, a2, a3, a4, a5, a6, a7, a8, a9, a10, a11, a12, [], ()))
 else
  Option.bind (f17 4 a11 a12) fun y0 =>
   some ((a0, a1, a2, a3, a4, a5, a6, a7, a8, a9, a10, y0.fst, y0.snd.fst, y0.snd.snd.fst, ()))
def f45_1.ins : Shape := ⟨[(0, .c (.ptr 0 0))], [(0, .box [.ptr 1 0, .int .i64, .int .i64, .bool, .int .i64, .int .i64, .int .i64, .int .i64, .int .i64, .int .i64, .int .i64, .int .i64]), (1, .box [.own 2, .int .i64]), (2, .arr .bool)]⟩
def f45_1.outs : List Shape := [⟨[(0, .c (.own 3))], [(0, .box [.ptr 1 0, .int .i64, .int .i64, .bool, .int .i64, .int .i64, .int .i64, .int .i64, .int .i64, .int .i64, .int .i64, .int .i64]), (1, .box [.own 2, .int .i64]), (2, .arr .bool), (3, .arr (.int .i64))]⟩]
def f45_1.S : FnSpec := ⟨f45_1.ins, f45_1.outs, [0, 1, 2], fun x => f45_1 x.1 x.2.1 x.2.2.1 x.2.2.2.1 x.2.2.2.2.1 x.2.2.2.2.2.1 x.2.2.2.2.2.2.1 x.2.2.2.2.2.2.2.1 x.2.2.2.2.2.2.2.2.1 x.2.2.2.2.2.2.2.2.2.1 x.2.2.2.2.2.2.2.2.2.2.1 x.2.2.2.2.2.2.2.2.2.2.2.1 x.2.2.2.2.2.2.2.2.2.2.2.2.1⟩
def f45_1.E (fuel : Nat) : Env := ⟨tis, [(17, f17.S)], [], [], [], [], 3, [0, 1, 2], fuel⟩
theorem f45_1.run : ∀ x, runFn (f45_1.E 100000000000000000000) Go.Proofs.Try.f45 ((Go.Proofs.Try.f45.body).getD .skip) f45_1.S x = f45_1.S.f x := by intro x; kernel_rfl
theorem f45_1.sound : Sound Go.Proofs.Try.prog 45 f45_1.S := sound_of_run (fun _ => f45_1.E 100000000000000000000) (by kernel_rfl) (by kernel_rfl) (by kernel_rfl) orders (fun _ => ⟨tis_ok, EqsOk.nil _, (FnsOk.cons f17.sound FnsOk.nil)⟩) (fun _ => rfl) (by kernel_rfl) (by kernel_rfl) (fun x r h => (f45_1.run x).trans h)
/-! f35_1: (*adit/remote.Remote).Heard -/
def f35_1.L1 (x : Int × Int × Int × Int × Int × Int × Int × Bool × Int × Int × Int × Int × Int × Int × Int × Int × Int × List Bool × Unit) : Option (Int × Int × Bool × Int × Int × Int × Int × Int × Int × Int × Int × Int × List Bool × Unit) :=
 it (X := Int × Int × Int × Int × Int × Int × Int × Bool × Int × Int × Int × Int × Int × Int × Int × Int × Int × List Bool × Unit) (fun rec x =>
 bif Decidable.decide (x.snd.snd.snd.snd.fst < 4) then
  bif inRange x.snd.snd.snd.snd.fst 4 then
   bif inRange x.snd.snd.snd.snd.fst 4 then
    bif inRange x.snd.snd.snd.snd.fst 4 then
     rec (x.fst, x.snd.fst, x.snd.snd.fst, x.snd.snd.snd.fst, Go.IntKind.wrap Go.IntKind.i64 (x.snd.snd.snd.snd.fst + 1), x.snd.snd.snd.snd.snd.fst, x.snd.snd.snd.snd.snd.snd.fst, x.snd.snd.snd.snd.snd.snd.snd.fst, x.snd.snd.snd.snd.snd.snd.snd.snd.fst, x.snd.snd.snd.snd.snd.snd.snd.snd.snd.fst, x.snd.snd.snd.snd.snd.snd.snd.snd.snd.snd.fst, x.snd.snd.snd.snd.snd.snd.snd.snd.snd.snd.snd.fst, if Int.toNat x.snd.snd.snd.snd.fst = 0 / 1 then maxI (List.getD [x.snd.snd.snd.snd.snd.snd.snd.snd.snd.snd.snd.snd.fst, x.snd.snd.snd.snd.snd.snd.snd.snd.snd.snd.snd.snd.snd.fst, x.snd.snd.snd.snd.snd.snd.snd.snd.snd.snd.snd.snd.snd.snd.fst, x.snd.snd.snd.snd.snd.snd.snd.snd.snd.snd.snd.snd.snd.snd.snd.fst] (Int.toNat x.snd.snd.snd.snd.fst) 0) (List.getD [x.fst, x.snd.fst, x.snd.snd.fst, x.snd.snd.snd.fst] (Int.toNat x.snd.snd.snd.snd.fst) 0) else x.snd.snd.snd.snd.snd.snd.snd.snd.snd.snd.snd.snd.fst, if Int.toNat x.snd.snd.snd.snd.fst = (0 + 1) / 1 then maxI (List.getD [x.snd.snd.snd.snd.snd.snd.snd.snd.snd.snd.snd.snd.fst, x.snd.snd.snd.snd.snd.snd.snd.snd.snd.snd.snd.snd.snd.fst, x.snd.snd.snd.snd.snd.snd.snd.snd.snd.snd.snd.snd.snd.snd.fst, x.snd.snd.snd.snd.snd.snd.snd.snd.snd.snd.snd.snd.snd.snd.snd.fst] (Int.toNat x.snd.snd.snd.snd.fst) 0) (List.getD [x.fst, x.snd.fst, x.snd.snd.fst, x.snd.snd.snd.fst] (Int.toNat x.snd.snd.snd.snd.fst) 0) else x.snd.snd.snd.snd.snd.snd.snd.snd.snd.snd.snd.snd.snd.fst, if Int.toNat x.snd.snd.snd.snd.fst = (0 + 1 + 1) / 1 then maxI (List.getD [x.snd.snd.snd.snd.snd.snd.snd.snd.snd.snd.snd.snd.fst, x.snd.snd.snd.snd.snd.snd.snd.snd.snd.snd.snd.snd.snd.fst, x.snd.snd.snd.snd.snd.snd.snd.snd.snd.snd.snd.snd.snd.snd.fst, x.snd.snd.snd.snd.snd.snd.snd.snd.snd.snd.snd.snd.snd.snd.snd.fst] (Int.toNat x.snd.snd.snd.snd.fst) 0) (List.getD [x.fst, x.snd.fst, x.snd.snd.fst, x.snd.snd.snd.fst] (Int.toNat x.snd.snd.snd.snd.fst) 0) else x.snd.snd.snd.snd.snd.snd.snd.snd.snd.snd.snd.snd.snd.snd.fst, if Int.toNat x.snd.snd.snd.snd.fst = (0 + 1 + 1 + 1) / 1 then maxI (List.getD [x.snd.snd.snd.snd.snd.snd.snd.snd.snd.snd.snd.snd.fst, x.snd.snd.snd.snd.snd.snd.snd.snd.snd.snd.snd.snd.snd.fst, x.snd.snd.snd.snd.snd.snd.snd.snd.snd.snd.snd.snd.snd.snd.fst, x.snd.snd.snd.snd.snd.snd.snd.snd.snd.snd.snd.snd.snd.snd.snd.fst] (Int.toNat x.snd.snd.snd.snd.fst) 0) (List.getD [x.fst, x.snd.fst, x.snd.snd.fst, x.snd.snd.snd.fst] (Int.toNat x.snd.snd.snd.snd.fst) 0) else x.snd.snd.snd.snd.snd.snd.snd.snd.snd.snd.snd.snd.snd.snd.snd.fst, x.snd.snd.snd.snd.snd.snd.snd.snd.snd.snd.snd.snd.snd.snd.snd.snd.fst, x.snd.snd.snd.snd.snd.snd.snd.snd.snd.snd.snd.snd.snd.snd.snd.snd.snd.fst, ())
    else
     none
   else
    none
  else
   none
 else
  bif x.snd.snd.snd.snd.snd.snd.snd.snd.fst == 2 then
   Option.bind (f19 (x.snd.snd.snd.snd.snd.snd.snd.snd.snd.snd.snd.snd.snd.snd.snd.snd.snd.fst, x.snd.snd.snd.snd.snd.snd.snd.snd.snd.snd.snd.snd.snd.snd.snd.snd.fst)) fun y0 =>
    bif y0.fst then
     bif x.snd.snd.snd.snd.snd.snd.snd.fst then
      some ((x.snd.snd.snd.snd.snd.fst, x.snd.snd.snd.snd.snd.snd.fst, x.snd.snd.snd.snd.snd.snd.snd.fst, 4, x.snd.snd.snd.snd.snd.snd.snd.snd.snd.fst, x.snd.snd.snd.snd.snd.snd.snd.snd.snd.snd.fst, x.snd.snd.snd.snd.snd.snd.snd.snd.snd.snd.snd.fst, x.snd.snd.snd.snd.snd.snd.snd.snd.snd.snd.snd.snd.fst, x.snd.snd.snd.snd.snd.snd.snd.snd.snd.snd.snd.snd.snd.fst, x.snd.snd.snd.snd.snd.snd.snd.snd.snd.snd.snd.snd.snd.snd.fst, x.snd.snd.snd.snd.snd.snd.snd.snd.snd.snd.snd.snd.snd.snd.snd.fst, x.snd.snd.snd.snd.snd.snd.snd.snd.snd.snd.snd.snd.snd.snd.snd.snd.fst, x.snd.snd.snd.snd.snd.snd.snd.snd.snd.snd.snd.snd.snd.snd.snd.snd.snd.fst, ()))
     else
      some ((x.snd.snd.snd.snd.snd.fst, x.snd.snd.snd.snd.snd.snd.fst, x.snd.snd.snd.snd.snd.snd.snd.fst, 3, x.snd.snd.snd.snd.snd.snd.snd.snd.snd.fst, x.snd.snd.snd.snd.snd.snd.snd.snd.snd.snd.fst, x.snd.snd.snd.snd.snd.snd.snd.snd.snd.snd.snd.fst, x.snd.snd.snd.snd.snd.snd.snd.snd.snd.snd.snd.snd.fst, x.snd.snd.snd.snd.snd.snd.snd.snd.snd.snd.snd.snd.snd.fst, x.snd.snd.snd.snd.snd.snd.snd.snd.snd.snd.snd.snd.snd.snd.fst, x.snd.snd.snd.snd.snd.snd.snd.snd.snd.snd.snd.snd.snd.snd.snd.fst, x.snd.snd.snd.snd.snd.snd.snd.snd.snd.snd.snd.snd.snd.snd.snd.snd.fst, x.snd.snd.snd.snd.snd.snd.snd.snd.snd.snd.snd.snd.snd.snd.snd.snd.snd.fst, ()))
    else
     some ((x.snd.snd.snd.snd.snd.fst, x.snd.snd.snd.snd.snd.snd.fst, x.snd.snd.snd.snd.snd.snd.snd.fst, x.snd.snd.snd.snd.snd.snd.snd.snd.fst, x.snd.snd.snd.snd.snd.snd.snd.snd.snd.fst, x.snd.snd.snd.snd.snd.snd.snd.snd.snd.snd.fst, x.snd.snd.snd.snd.snd.snd.snd.snd.snd.snd.snd.fst, x.snd.snd.snd.snd.snd.snd.snd.snd.snd.snd.snd.snd.fst, x.snd.snd.snd.snd.snd.snd.snd.snd.snd.snd.snd.snd.snd.fst, x.snd.snd.snd.snd.snd.snd.snd.snd.snd.snd.snd.snd.snd.snd.fst, x.snd.snd.snd.snd.snd.snd.snd.snd.snd.snd.snd.snd.snd.snd.snd.fst, x.snd.snd.snd.snd.snd.snd.snd.snd.snd.snd.snd.snd.snd.snd.snd.snd.fst, x.snd.snd.snd.snd.snd.snd.snd.snd.snd.snd.snd.snd.snd.snd.snd.snd.snd.fst, ()))
  else
   some ((x.snd.snd.snd.snd.snd.fst, x.snd.snd.snd.snd.snd.snd.fst, x.snd.snd.snd.snd.snd.snd.snd.fst, x.snd.snd.snd.snd.snd.snd.snd.snd.fst, x.snd.snd.snd.snd.snd.snd.snd.snd.snd.fst, x.snd.snd.snd.snd.snd.snd.snd.snd.snd.snd.fst, x.snd.snd.snd.snd.snd.snd.snd.snd.snd.snd.snd.fst, x.snd.snd.snd.snd.snd.snd.snd.snd.snd.snd.snd.snd.fst, x.snd.snd.snd.snd.snd.snd.snd.snd.snd.snd.snd.snd.snd.fst, x.snd.snd.snd.snd.snd.snd.snd.snd.snd.snd.snd.snd.snd.snd.fst, x.snd.snd.snd.snd.snd.snd.snd.snd.snd.snd.snd.snd.snd.snd.snd.fst, x.snd.snd.snd.snd.snd.snd.snd.snd.snd.snd.snd.snd.snd.snd.snd.snd.fst, x.snd.snd.snd.snd.snd.snd.snd.snd.snd.snd.snd.snd.snd.snd.snd.snd.snd.fst, ()))
 ) (100000000000000000000) (x)
def f35_1 (a0 : Int) (a1 : Int) (a2 : Int) (a3 : Int) (a4 : Int) (a5 : Int) (a6 : Int) (a7 : Int) (a8 : Int) (a9 : Bool) (a10 : Int) (a11 : Int) (a12 : Int) (a13 : Int) (a14 : Int) (a15 : Int) (a16 : Int) (a17 : Int) (a18 : Int) (a19 : List Bool) : Option (Int × Int × Bool × Int × Int × Int × Int × Int × Int × Int × Int × Int × List Bool × Unit) :=
 bif a10 == 7 then
  some ((a7, a8, a9, a10, a11, a12, a13, a14, a15, a16, a17, a18, a19, ()))
 else
  Option.bind (f21 a0 a18 a19) fun y0 =>
   f35_1.L1 ((a2, a3, a4, a5, 0, a7, a8, a9, a10, a11, maxI a12 a1, maxI a13 a6, a14, a15, a16, a17, y0.fst, y0.snd.fst, ()))
def f35_1.ins : Shape := ⟨[(0, .c (.ptr 0 0)), (1, .c (.int .u32)), (2, .c (.int .i64)), (3, .agg [.int .i64, .int .i64, .int .i64, .int .i64]), (4, .c (.int .i64))], [(0, .box [.ptr 1 0, .int .i64, .int .i64, .bool, .int .i64, .int .i64, .int .i64, .int .i64, .int .i64, .int .i64, .int .i64, .int .i64]), (1, .box [.own 2, .int .i64]), (2, .arr .bool)]⟩
def f35_1.outs : List Shape := [⟨[], [(0, .box [.ptr 1 0, .int .i64, .int .i64, .bool, .int .i64, .int .i64, .int .i64, .int .i64, .int .i64, .int .i64, .int .i64, .int .i64]), (1, .box [.own 2, .int .i64]), (2, .arr .bool)]⟩]
def f35_1.S : FnSpec := ⟨f35_1.ins, f35_1.outs, [0, 1, 2], fun x => f35_1 x.1 x.2.1 x.2.2.1 x.2.2.2.1 x.2.2.2.2.1 x.2.2.2.2.2.1 x.2.2.2.2.2.2.1 x.2.2.2.2.2.2.2.1 x.2.2.2.2.2.2.2.2.1 x.2.2.2.2.2.2.2.2.2.1 x.2.2.2.2.2.2.2.2.2.2.1 x.2.2.2.2.2.2.2.2.2.2.2.1 x.2.2.2.2.2.2.2.2.2.2.2.2.1 x.2.2.2.2.2.2.2.2.2.2.2.2.2.1 x.2.2.2.2.2.2.2.2.2.2.2.2.2.2.1 x.2.2.2.2.2.2.2.2.2.2.2.2.2.2.2.1 x.2.2.2.2.2.2.2.2.2.2.2.2.2.2.2.2.1 x.2.2.2.2.2.2.2.2.2.2.2.2.2.2.2.2.2.1 x.2.2.2.2.2.2.2.2.2.2.2.2.2.2.2.2.2.2.1 x.2.2.2.2.2.2.2.2.2.2.2.2.2.2.2.2.2.2.2.1⟩
def f35_1.E (fuel : Nat) : Env := ⟨tis, [(19, f19.S), (21, f21.S)], [], [], [(7, ⟨[(0, .c (.ptr 0 0)), (41, .agg [.int .i64, .int .i64, .int .i64, .int .i64]), (42, .c (.int .i64))], [(0, .box [.ptr 1 0, .int .i64, .int .i64, .bool, .int .i64, .int .i64, .int .i64, .int .i64, .int .i64, .int .i64, .int .i64, .int .i64]), (1, .box [.own 2, .int .i64]), (2, .arr .bool)]⟩)], [], 3, [0, 1, 2], fuel⟩
theorem f35_1.run : ∀ x, runFn (f35_1.E 100000000000000000000) Go.Proofs.Try.f35 ((Go.Proofs.Try.f35.body).getD .skip) f35_1.S x = f35_1.S.f x := by intro x; kernel_rfl
theorem f35_1.sound : Sound Go.Proofs.Try.prog 35 f35_1.S := sound_of_run (fun _ => f35_1.E 100000000000000000000) (by kernel_rfl) (by kernel_rfl) (by kernel_rfl) orders (fun _ => ⟨tis_ok, EqsOk.nil _, (FnsOk.cons f19.sound (FnsOk.cons f21.sound FnsOk.nil))⟩) (fun _ => rfl) (by kernel_rfl) (by kernel_rfl) (fun x r h => (f35_1.run x).trans h)
/-! f37_1: (*adit/remote.Remote).Stage -/
def f37_1 (a0 : Int) (a1 : Int) (a2 : Bool) (a3 : Int) (a4 : Int) (a5 : Int) (a6 : Int) (a7 : Int) (a8 : Int) (a9 : Int) (a10 : Int) (a11 : Int) (a12 : List Bool) : Option (Int × Int × Int × Bool × Int × Int × Int × Int × Int × Int × Int × Int × Int × List Bool × Unit) :=
 some ((a3, a0, a1, a2, a3, a4, a5, a6, a7, a8, a9, a10, a11, a12, ()))
def f37_1.ins : Shape := ⟨[(0, .c (.ptr 0 0))], [(0, .box [.ptr 1 0, .int .i64, .int .i64, .bool, .int .i64, .int .i64, .int .i64, .int .i64, .int .i64, .int .i64, .int .i64, .int .i64]), (1, .box [.own 2, .int .i64]), (2, .arr .bool)]⟩
def f37_1.outs : List Shape := [⟨[(0, .c (.int .i64))], [(0, .box [.ptr 1 0, .int .i64, .int .i64, .bool, .int .i64, .int .i64, .int .i64, .int .i64, .int .i64, .int .i64, .int .i64, .int .i64]), (1, .box [.own 2, .int .i64]), (2, .arr .bool)]⟩]
def f37_1.S : FnSpec := ⟨f37_1.ins, f37_1.outs, [0, 1, 2], fun x => f37_1 x.1 x.2.1 x.2.2.1 x.2.2.2.1 x.2.2.2.2.1 x.2.2.2.2.2.1 x.2.2.2.2.2.2.1 x.2.2.2.2.2.2.2.1 x.2.2.2.2.2.2.2.2.1 x.2.2.2.2.2.2.2.2.2.1 x.2.2.2.2.2.2.2.2.2.2.1 x.2.2.2.2.2.2.2.2.2.2.2.1 x.2.2.2.2.2.2.2.2.2.2.2.2.1⟩
def f37_1.E (fuel : Nat) : Env := ⟨tis, [], [], [], [], [], 3, [0, 1, 2], fuel⟩
theorem f37_1.run : ∀ x, runFn (f37_1.E 100000000000000000000) Go.Proofs.Try.f37 ((Go.Proofs.Try.f37.body).getD .skip) f37_1.S x = f37_1.S.f x := by intro x; kernel_rfl
theorem f37_1.sound : Sound Go.Proofs.Try.prog 37 f37_1.S := sound_of_run (fun _ => f37_1.E 100000000000000000000) (by kernel_rfl) (by kernel_rfl) (by kernel_rfl) orders (fun _ => ⟨tis_ok, EqsOk.nil _, FnsOk.nil⟩) (fun _ => rfl) (by kernel_rfl) (by kernel_rfl) (fun x r h => (f37_1.run x).trans h)
/-! f40_1: (*adit/remote.Remote).Since -/
def f40_1 (a0 : Int) (a1 : Int) (a2 : Int) (a3 : Bool) (a4 : Int) (a5 : Int) (a6 : Int) (a7 : Int) (a8 : Int) (a9 : Int) (a10 : Int) (a11 : Int) (a12 : Int) (a13 : List Bool) : Option (Int × Int × Int × Bool × Int × Int × Int × Int × Int × Int × Int × Int × Int × List Bool × Unit) :=
 bif Decidable.decide (a0 < 0) then
  some ((0, a1, a2, a3, a4, a5, a6, a7, a8, a9, a10, a11, a12, a13, ()))
 else
  bif Decidable.decide (a0 ≥ 4) then
   some ((0, a1, a2, a3, a4, a5, a6, a7, a8, a9, a10, a11, a12, a13, ()))
  else
   bif inRange a0 4 then
    some ((List.getD [a8, a9, a10, a11] (Int.toNat a0) 0, a1, a2, a3, a4, a5, a6, a7, a8, a9, a10, a11, a12, a13, ()))
   else
    none
def f40_1.ins : Shape := ⟨[(0, .c (.ptr 0 0)), (1, .c (.int .i64))], [(0, .box [.ptr 1 0, .int .i64, .int .i64, .bool, .int .i64, .int .i64, .int .i64, .int .i64, .int .i64, .int .i64, .int .i64, .int .i64]), (1, .box [.own 2, .int .i64]), (2, .arr .bool)]⟩
def f40_1.outs : List Shape := [⟨[(0, .c (.int .i64))], [(0, .box [.ptr 1 0, .int .i64, .int .i64, .bool, .int .i64, .int .i64, .int .i64, .int .i64, .int .i64, .int .i64, .int .i64, .int .i64]), (1, .box [.own 2, .int .i64]), (2, .arr .bool)]⟩]
def f40_1.S : FnSpec := ⟨f40_1.ins, f40_1.outs, [0, 1, 2], fun x => f40_1 x.1 x.2.1 x.2.2.1 x.2.2.2.1 x.2.2.2.2.1 x.2.2.2.2.2.1 x.2.2.2.2.2.2.1 x.2.2.2.2.2.2.2.1 x.2.2.2.2.2.2.2.2.1 x.2.2.2.2.2.2.2.2.2.1 x.2.2.2.2.2.2.2.2.2.2.1 x.2.2.2.2.2.2.2.2.2.2.2.1 x.2.2.2.2.2.2.2.2.2.2.2.2.1 x.2.2.2.2.2.2.2.2.2.2.2.2.2.1⟩
def f40_1.E (fuel : Nat) : Env := ⟨tis, [], [], [], [], [], 3, [0, 1, 2], fuel⟩
theorem f40_1.run : ∀ x, runFn (f40_1.E 100000000000000000000) Go.Proofs.Try.f40 ((Go.Proofs.Try.f40.body).getD .skip) f40_1.S x = f40_1.S.f x := by intro x; kernel_rfl
theorem f40_1.sound : Sound Go.Proofs.Try.prog 40 f40_1.S := sound_of_run (fun _ => f40_1.E 100000000000000000000) (by kernel_rfl) (by kernel_rfl) (by kernel_rfl) orders (fun _ => ⟨tis_ok, EqsOk.nil _, FnsOk.nil⟩) (fun _ => rfl) (by kernel_rfl) (by kernel_rfl) (fun x r h => (f40_1.run x).trans h)
/-! f32: adit/aditlaw19.known -/
def f32 : Option (Bool × Unit) :=
 Option.bind (f34 1 Bool.false 5 2) fun y0 =>
  Sum.elim (fun y1 =>
   bif y1.fst != 0 then
    some ((Bool.false, ()))
   else
    some ((Bool.false, ()))
  ) (fun z2 =>
   Sum.elim (fun y3 =>
    bif y3.fst != 0 then
     some ((Bool.false, ()))
    else
     Option.bind (f45 y3.snd.fst y3.snd.snd.fst y3.snd.snd.snd.fst y3.snd.snd.snd.snd.fst y3.snd.snd.snd.snd.snd.fst y3.snd.snd.snd.snd.snd.snd.fst y3.snd.snd.snd.snd.snd.snd.snd.fst y3.snd.snd.snd.snd.snd.snd.snd.snd.fst y3.snd.snd.snd.snd.snd.snd.snd.snd.snd.fst y3.snd.snd.snd.snd.snd.snd.snd.snd.snd.snd.fst y3.snd.snd.snd.snd.snd.snd.snd.snd.snd.snd.snd.fst) fun y5 =>
      some ((Bool.false, ()))
   ) (fun z4 =>
    bif z4.fst != 0 then
     some ((Bool.false, ()))
    else
     Option.bind (f45_1 z4.snd.fst z4.snd.snd.fst z4.snd.snd.snd.fst z4.snd.snd.snd.snd.fst z4.snd.snd.snd.snd.snd.fst z4.snd.snd.snd.snd.snd.snd.fst z4.snd.snd.snd.snd.snd.snd.snd.fst z4.snd.snd.snd.snd.snd.snd.snd.snd.fst z4.snd.snd.snd.snd.snd.snd.snd.snd.snd.fst z4.snd.snd.snd.snd.snd.snd.snd.snd.snd.snd.fst z4.snd.snd.snd.snd.snd.snd.snd.snd.snd.snd.snd.fst z4.snd.snd.snd.snd.snd.snd.snd.snd.snd.snd.snd.snd.fst z4.snd.snd.snd.snd.snd.snd.snd.snd.snd.snd.snd.snd.snd.fst) fun y6 =>
      bif (↑(List.length y6.snd.snd.snd.snd.snd.snd.snd.snd.snd.snd.snd.snd.snd.fst) : Int) != 2 then
       some ((Bool.false, ()))
      else
       Option.bind (f35_1 3 0 0 0 0 0 0 y6.fst y6.snd.fst y6.snd.snd.fst y6.snd.snd.snd.fst y6.snd.snd.snd.snd.fst y6.snd.snd.snd.snd.snd.fst y6.snd.snd.snd.snd.snd.snd.fst y6.snd.snd.snd.snd.snd.snd.snd.fst y6.snd.snd.snd.snd.snd.snd.snd.snd.fst y6.snd.snd.snd.snd.snd.snd.snd.snd.snd.fst y6.snd.snd.snd.snd.snd.snd.snd.snd.snd.snd.fst y6.snd.snd.snd.snd.snd.snd.snd.snd.snd.snd.snd.fst y6.snd.snd.snd.snd.snd.snd.snd.snd.snd.snd.snd.snd.fst) fun y7 =>
        Option.bind (f37_1 y7.fst y7.snd.fst y7.snd.snd.fst y7.snd.snd.snd.fst y7.snd.snd.snd.snd.fst y7.snd.snd.snd.snd.snd.fst y7.snd.snd.snd.snd.snd.snd.fst y7.snd.snd.snd.snd.snd.snd.snd.fst y7.snd.snd.snd.snd.snd.snd.snd.snd.fst y7.snd.snd.snd.snd.snd.snd.snd.snd.snd.fst y7.snd.snd.snd.snd.snd.snd.snd.snd.snd.snd.fst y7.snd.snd.snd.snd.snd.snd.snd.snd.snd.snd.snd.fst y7.snd.snd.snd.snd.snd.snd.snd.snd.snd.snd.snd.snd.fst) fun y8 =>
         bif y8.fst == 3 then
          Option.bind (f40_1 2 y8.snd.fst y8.snd.snd.fst y8.snd.snd.snd.fst y8.snd.snd.snd.snd.fst y8.snd.snd.snd.snd.snd.fst y8.snd.snd.snd.snd.snd.snd.fst y8.snd.snd.snd.snd.snd.snd.snd.fst y8.snd.snd.snd.snd.snd.snd.snd.snd.fst y8.snd.snd.snd.snd.snd.snd.snd.snd.snd.fst y8.snd.snd.snd.snd.snd.snd.snd.snd.snd.snd.fst y8.snd.snd.snd.snd.snd.snd.snd.snd.snd.snd.snd.fst y8.snd.snd.snd.snd.snd.snd.snd.snd.snd.snd.snd.snd.fst y8.snd.snd.snd.snd.snd.snd.snd.snd.snd.snd.snd.snd.snd.fst) fun y9 =>
           some ((y9.fst == 5, ()))
         else
          some ((Bool.false, ()))
   ) (z2)
  ) (y0)
def f32.ins : Shape := ⟨[], []⟩
def f32.outs : List Shape := [⟨[(0, .c (.bool))], []⟩]
def f32.S : FnSpec := ⟨f32.ins, f32.outs, [], fun _ => f32⟩
def f32.E (fuel : Nat) : Env := ⟨tis, [(34, f34.S), (45, f45.S), (35, f35.S), (37, f37.S), (40, f40.S), (45, f45_1.S), (35, f35_1.S), (37, f37_1.S), (40, f40_1.S)], [], [], [], [], 0, [], fuel⟩
theorem f32.run : ∀ x, runFn (f32.E 100000000000000000000) Go.Proofs.Try.f32 ((Go.Proofs.Try.f32.body).getD .skip) f32.S x = f32.S.f x := by intro x; kernel_rfl
theorem f32.sound : Sound Go.Proofs.Try.prog 32 f32.S := sound_of_run (fun _ => f32.E 100000000000000000000) (by kernel_rfl) (by kernel_rfl) (by kernel_rfl) orders (fun _ => ⟨tis_ok, EqsOk.nil _, (FnsOk.cons f34.sound (FnsOk.cons f45.sound (FnsOk.cons f35.sound (FnsOk.cons f37.sound (FnsOk.cons f40.sound (FnsOk.cons f45_1.sound (FnsOk.cons f35_1.sound (FnsOk.cons f37_1.sound (FnsOk.cons f40_1.sound FnsOk.nil)))))))))⟩) (fun _ => rfl) (by kernel_rfl) (by kernel_rfl) (fun x r h => (f32.run x).trans h)
/-! f33: adit/aditlaw19.within -/
def f33 (a0 : Int) (a1 : Int) : Option (Int × Unit) :=
 bif Decidable.decide (a1 = 0) then
  none
 else
  Option.bind (α := Int × Unit ⊕ Int × Unit) (
   bif Decidable.decide (Int.tmod a0 a1 < 0) then
    some (Sum.inl (Go.IntKind.wrap Go.IntKind.i64 (Int.tmod a0 a1 + a1), ()))
   else
    some (Sum.inl (Int.tmod a0 a1, ()))
  ) fun y0 =>
   Sum.elim (fun y1 =>
    some ((y1.fst, ()))
   ) (fun z2 =>
    some (z2)
   ) (y0)
def f33.ins : Shape := ⟨[(0, .c (.int .i64)), (1, .c (.int .i64))], []⟩
def f33.outs : List Shape := [⟨[(0, .c (.int .i64))], []⟩]
def f33.S : FnSpec := ⟨f33.ins, f33.outs, [], fun x => f33 x.1 x.2.1⟩
def f33.E (fuel : Nat) : Env := ⟨tis, [], [], [(5, ⟨[(5, .c (.int .i64))], []⟩)], [], [], 0, [], fuel⟩
theorem f33.run : ∀ x, runFn (f33.E 100000000000000000000) Go.Proofs.Try.f33 ((Go.Proofs.Try.f33.body).getD .skip) f33.S x = f33.S.f x := by intro x; kernel_rfl
theorem f33.sound : Sound Go.Proofs.Try.prog 33 f33.S := sound_of_run (fun _ => f33.E 100000000000000000000) (by kernel_rfl) (by kernel_rfl) (by kernel_rfl) orders (fun _ => ⟨tis_ok, EqsOk.nil _, FnsOk.nil⟩) (fun _ => rfl) (by kernel_rfl) (by kernel_rfl) (fun x r h => (f33.run x).trans h)
/-! f36: (*adit/remote.Remote).Late -/
def f36 (a0 : Int) (a1 : Int) (a2 : Int) (a3 : Bool) (a4 : Int) (a5 : Int) (a6 : Int) (a7 : Int) (a8 : Int) (a9 : Int) (a10 : Int) (a11 : Int) : Option (Bool × Int × Int × Bool × Int × Int × Int × Int × Int × Int × Int × Int × Unit) :=
 Option.bind (α := Int × Int × Bool × Int × Int × Int × Int × Int × Int × Int × Int × Unit ⊕ Bool × Int × Int × Bool × Int × Int × Int × Int × Int × Int × Int × Int × Unit) (
  Option.bind (α := Int × Int × Int × Int × Bool × Int × Int × Int × Int × Int × Int × Int × Int × Unit ⊕ Int × Int × Bool × Int × Int × Int × Int × Int × Int × Int × Int × Unit ⊕ Bool × Int × Int × Bool × Int × Int × Int × Int × Int × Int × Int × Int × Unit) (
   bif a4 == 4 then
    some (Sum.inl (a0, a7, a1, a2, a3, a4, a5, a6, a7, a8, a9, a10, a11, ()))
   else
    bif a4 == 2 then
     bif a4 == 2 then
      some (Sum.inl (a0, a2, a1, a2, a3, a4, a5, a6, a7, a8, a9, a10, a11, ()))
     else
      some (Sum.inr (Sum.inl (a1, a2, a3, a4, a5, a6, a7, a8, a9, a10, a11, ())))
    else
     bif a4 == 3 then
      some (Sum.inl (a0, a2, a1, a2, a3, a4, a5, a6, a7, a8, a9, a10, a11, ()))
     else
      some (Sum.inr (Sum.inl (a1, a2, a3, a4, a5, a6, a7, a8, a9, a10, a11, ())))
  ) fun y3 =>
   Sum.elim (fun y4 =>
    bif Decidable.decide (y4.fst > y4.snd.fst) then
     bif Decidable.decide (Go.IntKind.wrap Go.IntKind.i64 (y4.fst - y4.snd.fst) > 80) then
      some (Sum.inl (y4.snd.snd.fst, y4.snd.snd.snd.fst, y4.snd.snd.snd.snd.fst, 7, -1, y4.snd.snd.snd.snd.snd.snd.snd.fst, y4.snd.snd.snd.snd.snd.snd.snd.snd.fst, y4.snd.snd.snd.snd.snd.snd.snd.snd.snd.fst, y4.snd.snd.snd.snd.snd.snd.snd.snd.snd.snd.fst, y4.snd.snd.snd.snd.snd.snd.snd.snd.snd.snd.snd.fst, y4.snd.snd.snd.snd.snd.snd.snd.snd.snd.snd.snd.snd.fst, ()))
     else
      some (Sum.inl (y4.snd.snd.fst, y4.snd.snd.snd.fst, y4.snd.snd.snd.snd.fst, y4.snd.snd.snd.snd.snd.fst, y4.snd.snd.snd.snd.snd.snd.fst, y4.snd.snd.snd.snd.snd.snd.snd.fst, y4.snd.snd.snd.snd.snd.snd.snd.snd.fst, y4.snd.snd.snd.snd.snd.snd.snd.snd.snd.fst, y4.snd.snd.snd.snd.snd.snd.snd.snd.snd.snd.fst, y4.snd.snd.snd.snd.snd.snd.snd.snd.snd.snd.snd.fst, y4.snd.snd.snd.snd.snd.snd.snd.snd.snd.snd.snd.snd.fst, ()))
    else
     some (Sum.inl (y4.snd.snd.fst, y4.snd.snd.snd.fst, y4.snd.snd.snd.snd.fst, y4.snd.snd.snd.snd.snd.fst, y4.snd.snd.snd.snd.snd.snd.fst, y4.snd.snd.snd.snd.snd.snd.snd.fst, y4.snd.snd.snd.snd.snd.snd.snd.snd.fst, y4.snd.snd.snd.snd.snd.snd.snd.snd.snd.fst, y4.snd.snd.snd.snd.snd.snd.snd.snd.snd.snd.fst, y4.snd.snd.snd.snd.snd.snd.snd.snd.snd.snd.snd.fst, y4.snd.snd.snd.snd.snd.snd.snd.snd.snd.snd.snd.snd.fst, ()))
   ) (fun z5 =>
    some (z5)
   ) (y3)
 ) fun y0 =>
  Sum.elim (fun y1 =>
   some ((y1.snd.snd.snd.fst == 7, y1.fst, y1.snd.fst, y1.snd.snd.fst, y1.snd.snd.snd.fst, y1.snd.snd.snd.snd.fst, y1.snd.snd.snd.snd.snd.fst, y1.snd.snd.snd.snd.snd.snd.fst, y1.snd.snd.snd.snd.snd.snd.snd.fst, y1.snd.snd.snd.snd.snd.snd.snd.snd.fst, y1.snd.snd.snd.snd.snd.snd.snd.snd.snd.fst, y1.snd.snd.snd.snd.snd.snd.snd.snd.snd.snd.fst, ()))
  ) (fun z2 =>
   some (z2)
  ) (y0)
def f36.ins : Shape := ⟨[(0, .c (.ptr 0 0)), (1, .c (.int .i64))], [(0, .box [.nilp, .int .i64, .int .i64, .bool, .int .i64, .int .i64, .int .i64, .int .i64, .int .i64, .int .i64, .int .i64, .int .i64])]⟩
def f36.outs : List Shape := [⟨[(0, .c (.bool))], [(0, .box [.nilp, .int .i64, .int .i64, .bool, .int .i64, .int .i64, .int .i64, .int .i64, .int .i64, .int .i64, .int .i64, .int .i64])]⟩]
def f36.S : FnSpec := ⟨f36.ins, f36.outs, [0], fun x => f36 x.1 x.2.1 x.2.2.1 x.2.2.2.1 x.2.2.2.2.1 x.2.2.2.2.2.1 x.2.2.2.2.2.2.1 x.2.2.2.2.2.2.2.1 x.2.2.2.2.2.2.2.2.1 x.2.2.2.2.2.2.2.2.2.1 x.2.2.2.2.2.2.2.2.2.2.1 x.2.2.2.2.2.2.2.2.2.2.2.1⟩
def f36.E (fuel : Nat) : Env := ⟨tis, [], [], [(8, ⟨[(0, .c (.ptr 0 0)), (1, .c (.int .i64)), (5, .c (.int .i64))], [(0, .box [.nilp, .int .i64, .int .i64, .bool, .int .i64, .int .i64, .int .i64, .int .i64, .int .i64, .int .i64, .int .i64, .int .i64])]⟩), (10, ⟨[(0, .c (.ptr 0 0))], [(0, .box [.nilp, .int .i64, .int .i64, .bool, .int .i64, .int .i64, .int .i64, .int .i64, .int .i64, .int .i64, .int .i64, .int .i64])]⟩)], [], [], 1, [0], fuel⟩
theorem f36.run : ∀ x, runFn (f36.E 100000000000000000000) Go.Proofs.Try.f36 ((Go.Proofs.Try.f36.body).getD .skip) f36.S x = f36.S.f x := by intro x; kernel_rfl
theorem f36.sound : Sound Go.Proofs.Try.prog 36 f36.S := sound_of_run (fun _ => f36.E 100000000000000000000) (by kernel_rfl) (by kernel_rfl) (by kernel_rfl) orders (fun _ => ⟨tis_ok, EqsOk.nil _, FnsOk.nil⟩) (fun _ => rfl) (by kernel_rfl) (by kernel_rfl) (fun x r h => (f36.run x).trans h)
/-! f36_1: (*adit/remote.Remote).Late -/
def f36_1 (a0 : Int) (a1 : Int) (a2 : Int) (a3 : Bool) (a4 : Int) (a5 : Int) (a6 : Int) (a7 : Int) (a8 : Int) (a9 : Int) (a10 : Int) (a11 : Int) (a12 : Int) (a13 : List Bool) : Option (Bool × Int × Int × Bool × Int × Int × Int × Int × Int × Int × Int × Int × Int × List Bool × Unit) :=
 Option.bind (α := Int × Int × Bool × Int × Int × Int × Int × Int × Int × Int × Int × Int × List Bool × Unit ⊕ Bool × Int × Int × Bool × Int × Int × Int × Int × Int × Int × Int × Int × Int × List Bool × Unit) (
  Option.bind (α := Int × Int × Int × Int × Bool × Int × Int × Int × Int × Int × Int × Int × Int × Int × List Bool × Unit ⊕ Int × Int × Bool × Int × Int × Int × Int × Int × Int × Int × Int × Int × List Bool × Unit ⊕ Bool × Int × Int × Bool × Int × Int × Int × Int × Int × Int × Int × Int × Int × List Bool × Unit) (
   bif a4 == 4 then
    some (Sum.inl (a0, a7, a1, a2, a3, a4, a5, a6, a7, a8, a9, a10, a11, a12, a13, ()))
   else
    bif a4 == 2 then
     bif a4 == 2 then
      some (Sum.inl (a0, a2, a1, a2, a3, a4, a5, a6, a7, a8, a9, a10, a11, a12, a13, ()))
     else
      some (Sum.inr (Sum.inl (a1, a2, a3, a4, a5, a6, a7, a8, a9, a10, a11, a12, a13, ())))
    else
     bif a4 == 3 then
      some (Sum.inl (a0, a2, a1, a2, a3, a4, a5, a6, a7, a8, a9, a10, a11, a12, a13, ()))
     else
      some (Sum.inr (Sum.inl (a1, a2, a3, a4, a5, a6, a7, a8, a9, a10, a11, a12, a13, ())))
  ) fun y3 =>
   Sum.elim (fun y4 =>
    bif Decidable.decide (y4.fst > y4.snd.fst) then
     bif Decidable.decide (Go.IntKind.wrap Go.IntKind.i64 (y4.fst - y4.snd.fst) > 80) then
      some (Sum.inl (y4.snd.snd.fst, y4.snd.snd.snd.fst, y4.snd.snd.snd.snd.fst, 7, -1, y4.snd.snd.snd.snd.snd.snd.snd.fst, y4.snd.snd.snd.snd.snd.snd.snd.snd.fst, y4.snd.snd.snd.snd.snd.snd.snd.snd.snd.fst, y4.snd.snd.snd.snd.snd.snd.snd.snd.snd.snd.fst, y4.snd.snd.snd.snd.snd.snd.snd.snd.snd.snd.snd.fst, y4.snd.snd.snd.snd.snd.snd.snd.snd.snd.snd.snd.snd.fst, y4.snd.snd.snd.snd.snd.snd.snd.snd.snd.snd.snd.snd.snd.fst, y4.snd.snd.snd.snd.snd.snd.snd.snd.snd.snd.snd.snd.snd.snd.fst, ()))
     else
      some (Sum.inl (y4.snd.snd.fst, y4.snd.snd.snd.fst, y4.snd.snd.snd.snd.fst, y4.snd.snd.snd.snd.snd.fst, y4.snd.snd.snd.snd.snd.snd.fst, y4.snd.snd.snd.snd.snd.snd.snd.fst, y4.snd.snd.snd.snd.snd.snd.snd.snd.fst, y4.snd.snd.snd.snd.snd.snd.snd.snd.snd.fst, y4.snd.snd.snd.snd.snd.snd.snd.snd.snd.snd.fst, y4.snd.snd.snd.snd.snd.snd.snd.snd.snd.snd.snd.fst, y4.snd.snd.snd.snd.snd.snd.snd.snd.snd.snd.snd.snd.fst, y4.snd.snd.snd.snd.snd.snd.snd.snd.snd.snd.snd.snd.snd.fst, y4.snd.snd.snd.snd.snd.snd.snd.snd.snd.snd.snd.snd.snd.snd.fst, ()))
    else
     some (Sum.inl (y4.snd.snd.fst, y4.snd.snd.snd.fst, y4.snd.snd.snd.snd.fst, y4.snd.snd.snd.snd.snd.fst, y4.snd.snd.snd.snd.snd.snd.fst, y4.snd.snd.snd.snd.snd.snd.snd.fst, y4.snd.snd.snd.snd.snd.snd.snd.snd.fst, y4.snd.snd.snd.snd.snd.snd.snd.snd.snd.fst, y4.snd.snd.snd.snd.snd.snd.snd.snd.snd.snd.fst, y4.snd.snd.snd.snd.snd.snd.snd.snd.snd.snd.snd.fst, y4.snd.snd.snd.snd.snd.snd.snd.snd.snd.snd.snd.snd.fst, y4.snd.snd.snd.snd.snd.snd.snd.snd.snd.snd.snd.snd.snd.fst, y4.snd.snd.snd.snd.snd.snd.snd.snd.snd.snd.snd.snd.snd.snd.fst, ()))
   ) (fun z5 =>
    some (z5)
   ) (y3)
 ) fun y0 =>
  Sum.elim (fun y1 =>
   some ((y1.snd.snd.snd.fst == 7, y1.fst, y1.snd.fst, y1.snd.snd.fst, y1.snd.snd.snd.fst, y1.snd.snd.snd.snd.fst, y1.snd.snd.snd.snd.snd.fst, y1.snd.snd.snd.snd.snd.snd.fst, y1.snd.snd.snd.snd.snd.snd.snd.fst, y1.snd.snd.snd.snd.snd.snd.snd.snd.fst, y1.snd.snd.snd.snd.snd.snd.snd.snd.snd.fst, y1.snd.snd.snd.snd.snd.snd.snd.snd.snd.snd.fst, y1.snd.snd.snd.snd.snd.snd.snd.snd.snd.snd.snd.fst, y1.snd.snd.snd.snd.snd.snd.snd.snd.snd.snd.snd.snd.fst, ()))
  ) (fun z2 =>
   some (z2)
  ) (y0)
def f36_1.ins : Shape := ⟨[(0, .c (.ptr 0 0)), (1, .c (.int .i64))], [(0, .box [.ptr 1 0, .int .i64, .int .i64, .bool, .int .i64, .int .i64, .int .i64, .int .i64, .int .i64, .int .i64, .int .i64, .int .i64]), (1, .box [.own 2, .int .i64]), (2, .arr .bool)]⟩
def f36_1.outs : List Shape := [⟨[(0, .c (.bool))], [(0, .box [.ptr 1 0, .int .i64, .int .i64, .bool, .int .i64, .int .i64, .int .i64, .int .i64, .int .i64, .int .i64, .int .i64, .int .i64]), (1, .box [.own 2, .int .i64]), (2, .arr .bool)]⟩]
def f36_1.S : FnSpec := ⟨f36_1.ins, f36_1.outs, [0, 1, 2], fun x => f36_1 x.1 x.2.1 x.2.2.1 x.2.2.2.1 x.2.2.2.2.1 x.2.2.2.2.2.1 x.2.2.2.2.2.2.1 x.2.2.2.2.2.2.2.1 x.2.2.2.2.2.2.2.2.1 x.2.2.2.2.2.2.2.2.2.1 x.2.2.2.2.2.2.2.2.2.2.1 x.2.2.2.2.2.2.2.2.2.2.2.1 x.2.2.2.2.2.2.2.2.2.2.2.2.1 x.2.2.2.2.2.2.2.2.2.2.2.2.2.1⟩
def f36_1.E (fuel : Nat) : Env := ⟨tis, [], [], [(8, ⟨[(0, .c (.ptr 0 0)), (1, .c (.int .i64)), (5, .c (.int .i64))], [(0, .box [.ptr 1 0, .int .i64, .int .i64, .bool, .int .i64, .int .i64, .int .i64, .int .i64, .int .i64, .int .i64, .int .i64, .int .i64]), (1, .box [.own 2, .int .i64]), (2, .arr .bool)]⟩), (10, ⟨[(0, .c (.ptr 0 0))], [(0, .box [.ptr 1 0, .int .i64, .int .i64, .bool, .int .i64, .int .i64, .int .i64, .int .i64, .int .i64, .int .i64, .int .i64, .int .i64]), (1, .box [.own 2, .int .i64]), (2, .arr .bool)]⟩)], [], [], 3, [0, 1, 2], fuel⟩
theorem f36_1.run : ∀ x, runFn (f36_1.E 100000000000000000000) Go.Proofs.Try.f36 ((Go.Proofs.Try.f36.body).getD .skip) f36_1.S x = f36_1.S.f x := by intro x; kernel_rfl
theorem f36_1.sound : Sound Go.Proofs.Try.prog 36 f36_1.S := sound_of_run (fun _ => f36_1.E 100000000000000000000) (by kernel_rfl) (by kernel_rfl) (by kernel_rfl) orders (fun _ => ⟨tis_ok, EqsOk.nil _, FnsOk.nil⟩) (fun _ => rfl) (by kernel_rfl) (by kernel_rfl) (fun x r h => (f36_1.run x).trans h)
/-! f9: adit/aditlaw19.RemoteLate -/
def f9 (a0 : Int) (a1 : Int) (a2 : Int) (a3 : Bool) (a4 : Bool) : Option (Bool × Unit) :=
 Option.bind (f32) fun y0 =>
  bif !y0.fst then
   some ((Bool.false, ()))
  else
   Option.bind (f33 a0 1000) fun y1 =>
    Option.bind (f33 a1 1000) fun y2 =>
     Option.bind (f33 a2 3000) fun y3 =>
      Option.bind (f34 1 a3 y1.fst 1) fun y4 =>
       Sum.elim (fun y5 =>
        bif y5.fst != 0 then
         some ((Bool.false, ()))
        else
         some ((Bool.false, ()))
       ) (fun z6 =>
        Sum.elim (fun y7 =>
         bif y7.fst != 0 then
          some ((Bool.false, ()))
         else
          bif a4 then
           Option.bind (f35 1 0 0 0 0 0 y2.fst y7.snd.fst y7.snd.snd.fst y7.snd.snd.snd.fst y7.snd.snd.snd.snd.fst y7.snd.snd.snd.snd.snd.fst y7.snd.snd.snd.snd.snd.snd.fst y7.snd.snd.snd.snd.snd.snd.snd.fst y7.snd.snd.snd.snd.snd.snd.snd.snd.fst y7.snd.snd.snd.snd.snd.snd.snd.snd.snd.fst y7.snd.snd.snd.snd.snd.snd.snd.snd.snd.snd.fst y7.snd.snd.snd.snd.snd.snd.snd.snd.snd.snd.snd.fst) fun y9 =>
            bif a3 then
             Option.bind (f36 y3.fst y9.fst y9.snd.fst y9.snd.snd.fst y9.snd.snd.snd.fst y9.snd.snd.snd.snd.fst y9.snd.snd.snd.snd.snd.fst y9.snd.snd.snd.snd.snd.snd.fst y9.snd.snd.snd.snd.snd.snd.snd.fst y9.snd.snd.snd.snd.snd.snd.snd.snd.fst y9.snd.snd.snd.snd.snd.snd.snd.snd.snd.fst y9.snd.snd.snd.snd.snd.snd.snd.snd.snd.snd.fst) fun y10 =>
              bif y10.fst == Decidable.decide (Go.IntKind.wrap Go.IntKind.i64 (y3.fst - maxI y1.fst y2.fst) > 80) then
               Option.bind (f37 y10.snd.fst y10.snd.snd.fst y10.snd.snd.snd.fst y10.snd.snd.snd.snd.fst y10.snd.snd.snd.snd.snd.fst y10.snd.snd.snd.snd.snd.snd.fst y10.snd.snd.snd.snd.snd.snd.snd.fst y10.snd.snd.snd.snd.snd.snd.snd.snd.fst y10.snd.snd.snd.snd.snd.snd.snd.snd.snd.fst y10.snd.snd.snd.snd.snd.snd.snd.snd.snd.snd.fst y10.snd.snd.snd.snd.snd.snd.snd.snd.snd.snd.snd.fst) fun y11 =>
                some (((y11.fst == 7) == Decidable.decide (Go.IntKind.wrap Go.IntKind.i64 (y3.fst - maxI y1.fst y2.fst) > 80), ()))
              else
               some ((Bool.false, ()))
            else
             Option.bind (f36 y3.fst y9.fst y9.snd.fst y9.snd.snd.fst y9.snd.snd.snd.fst y9.snd.snd.snd.snd.fst y9.snd.snd.snd.snd.snd.fst y9.snd.snd.snd.snd.snd.snd.fst y9.snd.snd.snd.snd.snd.snd.snd.fst y9.snd.snd.snd.snd.snd.snd.snd.snd.fst y9.snd.snd.snd.snd.snd.snd.snd.snd.snd.fst y9.snd.snd.snd.snd.snd.snd.snd.snd.snd.snd.fst) fun y12 =>
              bif y12.fst == Decidable.decide (Go.IntKind.wrap Go.IntKind.i64 (y3.fst - y1.fst) > 80) then
               Option.bind (f37 y12.snd.fst y12.snd.snd.fst y12.snd.snd.snd.fst y12.snd.snd.snd.snd.fst y12.snd.snd.snd.snd.snd.fst y12.snd.snd.snd.snd.snd.snd.fst y12.snd.snd.snd.snd.snd.snd.snd.fst y12.snd.snd.snd.snd.snd.snd.snd.snd.fst y12.snd.snd.snd.snd.snd.snd.snd.snd.snd.fst y12.snd.snd.snd.snd.snd.snd.snd.snd.snd.snd.fst y12.snd.snd.snd.snd.snd.snd.snd.snd.snd.snd.snd.fst) fun y13 =>
                some (((y13.fst == 7) == Decidable.decide (Go.IntKind.wrap Go.IntKind.i64 (y3.fst - y1.fst) > 80), ()))
              else
               some ((Bool.false, ()))
          else
           Option.bind (f36 y3.fst y7.snd.fst y7.snd.snd.fst y7.snd.snd.snd.fst y7.snd.snd.snd.snd.fst y7.snd.snd.snd.snd.snd.fst y7.snd.snd.snd.snd.snd.snd.fst y7.snd.snd.snd.snd.snd.snd.snd.fst y7.snd.snd.snd.snd.snd.snd.snd.snd.fst y7.snd.snd.snd.snd.snd.snd.snd.snd.snd.fst y7.snd.snd.snd.snd.snd.snd.snd.snd.snd.snd.fst y7.snd.snd.snd.snd.snd.snd.snd.snd.snd.snd.snd.fst) fun y14 =>
            bif y14.fst == Decidable.decide (Go.IntKind.wrap Go.IntKind.i64 (y3.fst - y1.fst) > 80) then
             Option.bind (f37 y14.snd.fst y14.snd.snd.fst y14.snd.snd.snd.fst y14.snd.snd.snd.snd.fst y14.snd.snd.snd.snd.snd.fst y14.snd.snd.snd.snd.snd.snd.fst y14.snd.snd.snd.snd.snd.snd.snd.fst y14.snd.snd.snd.snd.snd.snd.snd.snd.fst y14.snd.snd.snd.snd.snd.snd.snd.snd.snd.fst y14.snd.snd.snd.snd.snd.snd.snd.snd.snd.snd.fst y14.snd.snd.snd.snd.snd.snd.snd.snd.snd.snd.snd.fst) fun y15 =>
              some (((y15.fst == 7) == Decidable.decide (Go.IntKind.wrap Go.IntKind.i64 (y3.fst - y1.fst) > 80), ()))
            else
             some ((Bool.false, ()))
        ) (fun z8 =>
         bif z8.fst != 0 then
          some ((Bool.false, ()))
         else
          bif a4 then
           Option.bind (f35_1 1 0 0 0 0 0 y2.fst z8.snd.fst z8.snd.snd.fst z8.snd.snd.snd.fst z8.snd.snd.snd.snd.fst z8.snd.snd.snd.snd.snd.fst z8.snd.snd.snd.snd.snd.snd.fst z8.snd.snd.snd.snd.snd.snd.snd.fst z8.snd.snd.snd.snd.snd.snd.snd.snd.fst z8.snd.snd.snd.snd.snd.snd.snd.snd.snd.fst z8.snd.snd.snd.snd.snd.snd.snd.snd.snd.snd.fst z8.snd.snd.snd.snd.snd.snd.snd.snd.snd.snd.snd.fst z8.snd.snd.snd.snd.snd.snd.snd.snd.snd.snd.snd.snd.fst z8.snd.snd.snd.snd.snd.snd.snd.snd.snd.snd.snd.snd.snd.fst) fun y16 =>
            bif a3 then
             Option.bind (f36_1 y3.fst y16.fst y16.snd.fst y16.snd.snd.fst y16.snd.snd.snd.fst y16.snd.snd.snd.snd.fst y16.snd.snd.snd.snd.snd.fst y16.snd.snd.snd.snd.snd.snd.fst y16.snd.snd.snd.snd.snd.snd.snd.fst y16.snd.snd.snd.snd.snd.snd.snd.snd.fst y16.snd.snd.snd.snd.snd.snd.snd.snd.snd.fst y16.snd.snd.snd.snd.snd.snd.snd.snd.snd.snd.fst y16.snd.snd.snd.snd.snd.snd.snd.snd.snd.snd.snd.fst y16.snd.snd.snd.snd.snd.snd.snd.snd.snd.snd.snd.snd.fst) fun y17 =>
              bif y17.fst == Decidable.decide (Go.IntKind.wrap Go.IntKind.i64 (y3.fst - maxI y1.fst y2.fst) > 80) then
               Option.bind (f37_1 y17.snd.fst y17.snd.snd.fst y17.snd.snd.snd.fst y17.snd.snd.snd.snd.fst y17.snd.snd.snd.snd.snd.fst y17.snd.snd.snd.snd.snd.snd.fst y17.snd.snd.snd.snd.snd.snd.snd.fst y17.snd.snd.snd.snd.snd.snd.snd.snd.fst y17.snd.snd.snd.snd.snd.snd.snd.snd.snd.fst y17.snd.snd.snd.snd.snd.snd.snd.snd.snd.snd.fst y17.snd.snd.snd.snd.snd.snd.snd.snd.snd.snd.snd.fst y17.snd.snd.snd.snd.snd.snd.snd.snd.snd.snd.snd.snd.fst y17.snd.snd.snd.snd.snd.snd.snd.snd.snd.snd.snd.snd.snd.fst) fun y18 =>
                some (((y18.fst == 7) == Decidable.decide (Go.IntKind.wrap Go.IntKind.i64 (y3.fst - maxI y1.fst y2.fst) > 80), ()))
              else
               some ((Bool.false, ()))
            else
             Option.bind (f36_1 y3.fst y16.fst y16.snd.fst y16.snd.snd.fst y16.snd.snd.snd.fst y16.snd.snd.snd.snd.fst y16.snd.snd.snd.snd.snd.fst y16.snd.snd.snd.snd.snd.snd.fst y16.snd.snd.snd.snd.snd.snd.snd.fst y16.snd.snd.snd.snd.snd.snd.snd.snd.fst y16.snd.snd.snd.snd.snd.snd.snd.snd.snd.fst y16.snd.snd.snd.snd.snd.snd.snd.snd.snd.snd.fst y16.snd.snd.snd.snd.snd.snd.snd.snd.snd.snd.snd.fst y16.snd.snd.snd.snd.snd.snd.snd.snd.snd.snd.snd.snd.fst) fun y19 =>
              bif y19.fst == Decidable.decide (Go.IntKind.wrap Go.IntKind.i64 (y3.fst - y1.fst) > 80) then
               Option.bind (f37_1 y19.snd.fst y19.snd.snd.fst y19.snd.snd.snd.fst y19.snd.snd.snd.snd.fst y19.snd.snd.snd.snd.snd.fst y19.snd.snd.snd.snd.snd.snd.fst y19.snd.snd.snd.snd.snd.snd.snd.fst y19.snd.snd.snd.snd.snd.snd.snd.snd.fst y19.snd.snd.snd.snd.snd.snd.snd.snd.snd.fst y19.snd.snd.snd.snd.snd.snd.snd.snd.snd.snd.fst y19.snd.snd.snd.snd.snd.snd.snd.snd.snd.snd.snd.fst y19.snd.snd.snd.snd.snd.snd.snd.snd.snd.snd.snd.snd.fst y19.snd.snd.snd.snd.snd.snd.snd.snd.snd.snd.snd.snd.snd.fst) fun y20 =>
                some (((y20.fst == 7) == Decidable.decide (Go.IntKind.wrap Go.IntKind.i64 (y3.fst - y1.fst) > 80), ()))
              else
               some ((Bool.false, ()))
          else
           Option.bind (f36_1 y3.fst z8.snd.fst z8.snd.snd.fst z8.snd.snd.snd.fst z8.snd.snd.snd.snd.fst z8.snd.snd.snd.snd.snd.fst z8.snd.snd.snd.snd.snd.snd.fst z8.snd.snd.snd.snd.snd.snd.snd.fst z8.snd.snd.snd.snd.snd.snd.snd.snd.fst z8.snd.snd.snd.snd.snd.snd.snd.snd.snd.fst z8.snd.snd.snd.snd.snd.snd.snd.snd.snd.snd.fst z8.snd.snd.snd.snd.snd.snd.snd.snd.snd.snd.snd.fst z8.snd.snd.snd.snd.snd.snd.snd.snd.snd.snd.snd.snd.fst z8.snd.snd.snd.snd.snd.snd.snd.snd.snd.snd.snd.snd.snd.fst) fun y21 =>
            bif y21.fst == Decidable.decide (Go.IntKind.wrap Go.IntKind.i64 (y3.fst - y1.fst) > 80) then
             Option.bind (f37_1 y21.snd.fst y21.snd.snd.fst y21.snd.snd.snd.fst y21.snd.snd.snd.snd.fst y21.snd.snd.snd.snd.snd.fst y21.snd.snd.snd.snd.snd.snd.fst y21.snd.snd.snd.snd.snd.snd.snd.fst y21.snd.snd.snd.snd.snd.snd.snd.snd.fst y21.snd.snd.snd.snd.snd.snd.snd.snd.snd.fst y21.snd.snd.snd.snd.snd.snd.snd.snd.snd.snd.fst y21.snd.snd.snd.snd.snd.snd.snd.snd.snd.snd.snd.fst y21.snd.snd.snd.snd.snd.snd.snd.snd.snd.snd.snd.snd.fst y21.snd.snd.snd.snd.snd.snd.snd.snd.snd.snd.snd.snd.snd.fst) fun y22 =>
              some (((y22.fst == 7) == Decidable.decide (Go.IntKind.wrap Go.IntKind.i64 (y3.fst - y1.fst) > 80), ()))
            else
             some ((Bool.false, ()))
        ) (z6)
       ) (y4)
def f9.ins : Shape := ⟨[(0, .c (.int .i64)), (1, .c (.int .i64)), (2, .c (.int .i64)), (3, .c (.bool)), (4, .c (.bool))], []⟩
def f9.outs : List Shape := [⟨[(0, .c (.bool))], []⟩]
def f9.S : FnSpec := ⟨f9.ins, f9.outs, [], fun x => f9 x.1 x.2.1 x.2.2.1 x.2.2.2.1 x.2.2.2.2.1⟩
def f9.E (fuel : Nat) : Env := ⟨tis, [(34, f34.S), (35, f35.S), (37, f37.S), (35, f35_1.S), (37, f37_1.S), (32, f32.S), (33, f33.S), (36, f36.S), (36, f36_1.S)], [], [], [], [], 0, [], fuel⟩
theorem f9.run : ∀ x, runFn (f9.E 100000000000000000000) Go.Proofs.Try.f9 ((Go.Proofs.Try.f9.body).getD .skip) f9.S x = f9.S.f x := by intro x; kernel_rfl
theorem f9.sound : Sound Go.Proofs.Try.prog 9 f9.S := sound_of_run (fun _ => f9.E 100000000000000000000) (by kernel_rfl) (by kernel_rfl) (by kernel_rfl) orders (fun _ => ⟨tis_ok, EqsOk.nil _, (FnsOk.cons f34.sound (FnsOk.cons f35.sound (FnsOk.cons f37.sound (FnsOk.cons f35_1.sound (FnsOk.cons f37_1.sound (FnsOk.cons f32.sound (FnsOk.cons f33.sound (FnsOk.cons f36.sound (FnsOk.cons f36_1.sound FnsOk.nil)))))))))⟩) (fun _ => rfl) (by kernel_rfl) (by kernel_rfl) (fun x r h => (f9.run x).trans h)
/-! f38: (*adit/remote.Remote).Records -/
def f38 (a0 : Int) (a1 : Int) (a2 : Bool) (a3 : Int) (a4 : Int) (a5 : Int) (a6 : Int) (a7 : Int) (a8 : Int) (a9 : Int) (a10 : Int) : Option (Int × Int × Int × Bool × Int × Int × Int × Int × Int × Int × Int × Int × Unit) :=
 some ((a5, a0, a1, a2, a3, a4, a5, a6, a7, a8, a9, a10, ()))
def f38.ins : Shape := ⟨[(0, .c (.ptr 0 0))], [(0, .box [.nilp, .int .i64, .int .i64, .bool, .int .i64, .int .i64, .int .i64, .int .i64, .int .i64, .int .i64, .int .i64, .int .i64])]⟩
def f38.outs : List Shape := [⟨[(0, .c (.int .i64))], [(0, .box [.nilp, .int .i64, .int .i64, .bool, .int .i64, .int .i64, .int .i64, .int .i64, .int .i64, .int .i64, .int .i64, .int .i64])]⟩]
def f38.S : FnSpec := ⟨f38.ins, f38.outs, [0], fun x => f38 x.1 x.2.1 x.2.2.1 x.2.2.2.1 x.2.2.2.2.1 x.2.2.2.2.2.1 x.2.2.2.2.2.2.1 x.2.2.2.2.2.2.2.1 x.2.2.2.2.2.2.2.2.1 x.2.2.2.2.2.2.2.2.2.1 x.2.2.2.2.2.2.2.2.2.2.1⟩
def f38.E (fuel : Nat) : Env := ⟨tis, [], [], [], [], [], 1, [0], fuel⟩
theorem f38.run : ∀ x, runFn (f38.E 100000000000000000000) Go.Proofs.Try.f38 ((Go.Proofs.Try.f38.body).getD .skip) f38.S x = f38.S.f x := by intro x; kernel_rfl
theorem f38.sound : Sound Go.Proofs.Try.prog 38 f38.S := sound_of_run (fun _ => f38.E 100000000000000000000) (by kernel_rfl) (by kernel_rfl) (by kernel_rfl) orders (fun _ => ⟨tis_ok, EqsOk.nil _, FnsOk.nil⟩) (fun _ => rfl) (by kernel_rfl) (by kernel_rfl) (fun x r h => (f38.run x).trans h)
/-! f39: (*adit/remote.Remote).Keep -/
def f39 (a0 : Int) (a1 : Int) (a2 : Bool) (a3 : Int) (a4 : Int) (a5 : Int) (a6 : Int) (a7 : Int) (a8 : Int) (a9 : Int) (a10 : Int) : Option (Int × Int × Int × Bool × Int × Int × Int × Int × Int × Int × Int × Int × Unit) :=
 bif a3 == 7 then
  some ((1073741823, a0, a1, a2, a3, a4, a5, a6, a7, a8, a9, a10, ()))
 else
  some ((a6, a0, a1, a2, a3, a4, a5, a6, a7, a8, a9, a10, ()))
def f39.ins : Shape := ⟨[(0, .c (.ptr 0 0))], [(0, .box [.nilp, .int .i64, .int .i64, .bool, .int .i64, .int .i64, .int .i64, .int .i64, .int .i64, .int .i64, .int .i64, .int .i64])]⟩
def f39.outs : List Shape := [⟨[(0, .c (.int .i64))], [(0, .box [.nilp, .int .i64, .int .i64, .bool, .int .i64, .int .i64, .int .i64, .int .i64, .int .i64, .int .i64, .int .i64, .int .i64])]⟩]
def f39.S : FnSpec := ⟨f39.ins, f39.outs, [0], fun x => f39 x.1 x.2.1 x.2.2.1 x.2.2.2.1 x.2.2.2.2.1 x.2.2.2.2.2.1 x.2.2.2.2.2.2.1 x.2.2.2.2.2.2.2.1 x.2.2.2.2.2.2.2.2.1 x.2.2.2.2.2.2.2.2.2.1 x.2.2.2.2.2.2.2.2.2.2.1⟩
def f39.E (fuel : Nat) : Env := ⟨tis, [], [], [], [], [], 1, [0], fuel⟩
theorem f39.run : ∀ x, runFn (f39.E 100000000000000000000) Go.Proofs.Try.f39 ((Go.Proofs.Try.f39.body).getD .skip) f39.S x = f39.S.f x := by intro x; kernel_rfl
theorem f39.sound : Sound Go.Proofs.Try.prog 39 f39.S := sound_of_run (fun _ => f39.E 100000000000000000000) (by kernel_rfl) (by kernel_rfl) (by kernel_rfl) orders (fun _ => ⟨tis_ok, EqsOk.nil _, FnsOk.nil⟩) (fun _ => rfl) (by kernel_rfl) (by kernel_rfl) (fun x r h => (f39.run x).trans h)
/-! f38_1: (*adit/remote.Remote).Records -/
def f38_1 (a0 : Int) (a1 : Int) (a2 : Bool) (a3 : Int) (a4 : Int) (a5 : Int) (a6 : Int) (a7 : Int) (a8 : Int) (a9 : Int) (a10 : Int) (a11 : Int) (a12 : List Bool) : Option (Int × Int × Int × Bool × Int × Int × Int × Int × Int × Int × Int × Int × Int × List Bool × Unit) :=
 some ((a5, a0, a1, a2, a3, a4, a5, a6, a7, a8, a9, a10, a11, a12, ()))
def f38_1.ins : Shape := ⟨[(0, .c (.ptr 0 0))], [(0, .box [.ptr 1 0, .int .i64, .int .i64, .bool, .int .i64, .int .i64, .int .i64, .int .i64, .int .i64, .int .i64, .int .i64, .int .i64]), (1, .box [.own 2, .int .i64]), (2, .arr .bool)]⟩
def f38_1.outs : List Shape := [⟨[(0, .c (.int .i64))], [(0, .box [.ptr 1 0, .int .i64, .int .i64, .bool, .int .i64, .int .i64, .int .i64, .int .i64, .int .i64, .int .i64, .int .i64, .int .i64]), (1, .box [.own 2, .int .i64]), (2, .arr .bool)]⟩]
def f38_1.S : FnSpec := ⟨f38_1.ins, f38_1.outs, [0, 1, 2], fun x => f38_1 x.1 x.2.1 x.2.2.1 x.2.2.2.1 x.2.2.2.2.1 x.2.2.2.2.2.1 x.2.2.2.2.2.2.1 x.2.2.2.2.2.2.2.1 x.2.2.2.2.2.2.2.2.1 x.2.2.2.2.2.2.2.2.2.1 x.2.2.2.2.2.2.2.2.2.2.1 x.2.2.2.2.2.2.2.2.2.2.2.1 x.2.2.2.2.2.2.2.2.2.2.2.2.1⟩
def f38_1.E (fuel : Nat) : Env := ⟨tis, [], [], [], [], [], 3, [0, 1, 2], fuel⟩
theorem f38_1.run : ∀ x, runFn (f38_1.E 100000000000000000000) Go.Proofs.Try.f38 ((Go.Proofs.Try.f38.body).getD .skip) f38_1.S x = f38_1.S.f x := by intro x; kernel_rfl
theorem f38_1.sound : Sound Go.Proofs.Try.prog 38 f38_1.S := sound_of_run (fun _ => f38_1.E 100000000000000000000) (by kernel_rfl) (by kernel_rfl) (by kernel_rfl) orders (fun _ => ⟨tis_ok, EqsOk.nil _, FnsOk.nil⟩) (fun _ => rfl) (by kernel_rfl) (by kernel_rfl) (fun x r h => (f38_1.run x).trans h)
/-! f39_1: (*adit/remote.Remote).Keep -/
def f39_1 (a0 : Int) (a1 : Int) (a2 : Bool) (a3 : Int) (a4 : Int) (a5 : Int) (a6 : Int) (a7 : Int) (a8 : Int) (a9 : Int) (a10 : Int) (a11 : Int) (a12 : List Bool) : Option (Int × Int × Int × Bool × Int × Int × Int × Int × Int × Int × Int × Int × Int × List Bool × Unit) :=
 bif a3 == 7 then
  some ((1073741823, a0, a1, a2, a3, a4, a5, a6, a7, a8, a9, a10, a11, a12, ()))
 else
  some ((a6, a0, a1, a2, a3, a4, a5, a6, a7, a8, a9, a10, a11, a12, ()))
def f39_1.ins : Shape := ⟨[(0, .c (.ptr 0 0))], [(0, .box [.ptr 1 0, .int .i64, .int .i64, .bool, .int .i64, .int .i64, .int .i64, .int .i64, .int .i64, .int .i64, .int .i64, .int .i64]), (1, .box [.own 2, .int .i64]), (2, .arr .bool)]⟩
def f39_1.outs : List Shape := [⟨[(0, .c (.int .i64))], [(0, .box [.ptr 1 0, .int .i64, .int .i64, .bool, .int .i64, .int .i64, .int .i64, .int .i64, .int .i64, .int .i64, .int .i64, .int .i64]), (1, .box [.own 2, .int .i64]), (2, .arr .bool)]⟩]
def f39_1.S : FnSpec := ⟨f39_1.ins, f39_1.outs, [0, 1, 2], fun x => f39_1 x.1 x.2.1 x.2.2.1 x.2.2.2.1 x.2.2.2.2.1 x.2.2.2.2.2.1 x.2.2.2.2.2.2.1 x.2.2.2.2.2.2.2.1 x.2.2.2.2.2.2.2.2.1 x.2.2.2.2.2.2.2.2.2.1 x.2.2.2.2.2.2.2.2.2.2.1 x.2.2.2.2.2.2.2.2.2.2.2.1 x.2.2.2.2.2.2.2.2.2.2.2.2.1⟩
def f39_1.E (fuel : Nat) : Env := ⟨tis, [], [], [], [], [], 3, [0, 1, 2], fuel⟩
theorem f39_1.run : ∀ x, runFn (f39_1.E 100000000000000000000) Go.Proofs.Try.f39 ((Go.Proofs.Try.f39.body).getD .skip) f39_1.S x = f39_1.S.f x := by intro x; kernel_rfl
theorem f39_1.sound : Sound Go.Proofs.Try.prog 39 f39_1.S := sound_of_run (fun _ => f39_1.E 100000000000000000000) (by kernel_rfl) (by kernel_rfl) (by kernel_rfl) orders (fun _ => ⟨tis_ok, EqsOk.nil _, FnsOk.nil⟩) (fun _ => rfl) (by kernel_rfl) (by kernel_rfl) (fun x r h => (f39_1.run x).trans h)
/-! f10: adit/aditlaw19.RemoteGrows -/
def f10.L1 (k0 : Int × List (Int × Int × Int × Int × Int × Int × Int × Int × Int) × Bool × Int × Int × Int × Bool × Int × Int × Int × Int × Int × Int × Int × Int × Unit → Option (Bool × Unit)) (x : Int × List (Int × Int × Int × Int × Int × Int × Int × Int × Int) × Bool × Int × Int × Int × Int × Bool × Int × Int × Int × Int × Int × Int × Int × Int × Int × Int × Int × Int × Unit) : Option (Bool × Unit) :=
 it (X := Int × List (Int × Int × Int × Int × Int × Int × Int × Int × Int) × Bool × Int × Int × Int × Int × Bool × Int × Int × Int × Int × Int × Int × Int × Int × Int × Int × Int × Int × Unit) (fun rec x =>
 bif Decidable.decide (x.snd.snd.snd.snd.fst < 4) then
  Option.bind (f40 x.snd.snd.snd.snd.fst x.snd.snd.snd.snd.snd.fst x.snd.snd.snd.snd.snd.snd.fst x.snd.snd.snd.snd.snd.snd.snd.fst x.snd.snd.snd.snd.snd.snd.snd.snd.fst x.snd.snd.snd.snd.snd.snd.snd.snd.snd.fst x.snd.snd.snd.snd.snd.snd.snd.snd.snd.snd.fst x.snd.snd.snd.snd.snd.snd.snd.snd.snd.snd.snd.fst x.snd.snd.snd.snd.snd.snd.snd.snd.snd.snd.snd.snd.fst x.snd.snd.snd.snd.snd.snd.snd.snd.snd.snd.snd.snd.snd.fst x.snd.snd.snd.snd.snd.snd.snd.snd.snd.snd.snd.snd.snd.snd.fst x.snd.snd.snd.snd.snd.snd.snd.snd.snd.snd.snd.snd.snd.snd.snd.fst) fun y0 =>
   bif inRange x.snd.snd.snd.snd.fst 4 then
    bif Decidable.decide (y0.fst < List.getD [x.snd.snd.snd.snd.snd.snd.snd.snd.snd.snd.snd.snd.snd.snd.snd.snd.fst, x.snd.snd.snd.snd.snd.snd.snd.snd.snd.snd.snd.snd.snd.snd.snd.snd.snd.fst, x.snd.snd.snd.snd.snd.snd.snd.snd.snd.snd.snd.snd.snd.snd.snd.snd.snd.snd.fst, x.snd.snd.snd.snd.snd.snd.snd.snd.snd.snd.snd.snd.snd.snd.snd.snd.snd.snd.snd.fst] (Int.toNat x.snd.snd.snd.snd.fst) 0) then
     some ((Bool.false, ()))
    else
     Option.bind (f40 x.snd.snd.snd.snd.fst y0.snd.fst y0.snd.snd.fst y0.snd.snd.snd.fst y0.snd.snd.snd.snd.fst y0.snd.snd.snd.snd.snd.fst y0.snd.snd.snd.snd.snd.snd.fst y0.snd.snd.snd.snd.snd.snd.snd.fst y0.snd.snd.snd.snd.snd.snd.snd.snd.fst y0.snd.snd.snd.snd.snd.snd.snd.snd.snd.fst y0.snd.snd.snd.snd.snd.snd.snd.snd.snd.snd.fst y0.snd.snd.snd.snd.snd.snd.snd.snd.snd.snd.snd.fst) fun y1 =>
      bif Decidable.decide (y1.fst < x.fst) then
       some ((Bool.false, ()))
      else
       rec (x.fst, x.snd.fst, x.snd.snd.fst, x.snd.snd.snd.fst, Go.IntKind.wrap Go.IntKind.i64 (x.snd.snd.snd.snd.fst + 1), y1.snd.fst, y1.snd.snd.fst, y1.snd.snd.snd.fst, y1.snd.snd.snd.snd.fst, y1.snd.snd.snd.snd.snd.fst, y1.snd.snd.snd.snd.snd.snd.fst, y1.snd.snd.snd.snd.snd.snd.snd.fst, y1.snd.snd.snd.snd.snd.snd.snd.snd.fst, y1.snd.snd.snd.snd.snd.snd.snd.snd.snd.fst, y1.snd.snd.snd.snd.snd.snd.snd.snd.snd.snd.fst, y1.snd.snd.snd.snd.snd.snd.snd.snd.snd.snd.snd.fst, x.snd.snd.snd.snd.snd.snd.snd.snd.snd.snd.snd.snd.snd.snd.snd.snd.fst, x.snd.snd.snd.snd.snd.snd.snd.snd.snd.snd.snd.snd.snd.snd.snd.snd.snd.fst, x.snd.snd.snd.snd.snd.snd.snd.snd.snd.snd.snd.snd.snd.snd.snd.snd.snd.snd.fst, x.snd.snd.snd.snd.snd.snd.snd.snd.snd.snd.snd.snd.snd.snd.snd.snd.snd.snd.snd.fst, ())
   else
    none
 else
  k0 (x.fst, x.snd.fst, x.snd.snd.fst, Go.IntKind.wrap Go.IntKind.i64 (x.snd.snd.snd.fst + 1), x.snd.snd.snd.snd.snd.fst, x.snd.snd.snd.snd.snd.snd.fst, x.snd.snd.snd.snd.snd.snd.snd.fst, x.snd.snd.snd.snd.snd.snd.snd.snd.fst, x.snd.snd.snd.snd.snd.snd.snd.snd.snd.fst, x.snd.snd.snd.snd.snd.snd.snd.snd.snd.snd.fst, x.snd.snd.snd.snd.snd.snd.snd.snd.snd.snd.snd.fst, x.snd.snd.snd.snd.snd.snd.snd.snd.snd.snd.snd.snd.fst, x.snd.snd.snd.snd.snd.snd.snd.snd.snd.snd.snd.snd.snd.fst, x.snd.snd.snd.snd.snd.snd.snd.snd.snd.snd.snd.snd.snd.snd.fst, x.snd.snd.snd.snd.snd.snd.snd.snd.snd.snd.snd.snd.snd.snd.snd.fst, ())
 ) (100000000000000000000) (x)
def f10.L2 (k0 : Int × List (Int × Int × Int × Int × Int × Int × Int × Int × Int) × Bool × Int × Int × Int × Bool × Int × Int × Int × Int × Int × Int × Int × Int × Unit → Option (Bool × Unit)) (x : Int × List (Int × Int × Int × Int × Int × Int × Int × Int × Int) × Bool × Int × Int × Int × Int × Int × Int × Bool × Int × Int × Int × Int × Int × Int × Int × Int × Int × Int × Int × Int × Int × Int × Int × Int × Int × Int × Int × Int × Int × Unit) : Option (Bool × Unit) :=
 it (X := Int × List (Int × Int × Int × Int × Int × Int × Int × Int × Int) × Bool × Int × Int × Int × Int × Int × Int × Bool × Int × Int × Int × Int × Int × Int × Int × Int × Int × Int × Int × Int × Int × Int × Int × Int × Int × Int × Int × Int × Int × Unit) (fun rec x =>
 bif Decidable.decide (x.snd.snd.snd.snd.snd.snd.fst < 4) then
  Option.bind (f40 x.snd.snd.snd.snd.snd.snd.fst x.snd.snd.snd.snd.snd.snd.snd.fst x.snd.snd.snd.snd.snd.snd.snd.snd.fst x.snd.snd.snd.snd.snd.snd.snd.snd.snd.fst x.snd.snd.snd.snd.snd.snd.snd.snd.snd.snd.fst x.snd.snd.snd.snd.snd.snd.snd.snd.snd.snd.snd.fst x.snd.snd.snd.snd.snd.snd.snd.snd.snd.snd.snd.snd.fst x.snd.snd.snd.snd.snd.snd.snd.snd.snd.snd.snd.snd.snd.fst x.snd.snd.snd.snd.snd.snd.snd.snd.snd.snd.snd.snd.snd.snd.fst x.snd.snd.snd.snd.snd.snd.snd.snd.snd.snd.snd.snd.snd.snd.snd.fst x.snd.snd.snd.snd.snd.snd.snd.snd.snd.snd.snd.snd.snd.snd.snd.snd.fst x.snd.snd.snd.snd.snd.snd.snd.snd.snd.snd.snd.snd.snd.snd.snd.snd.snd.fst) fun y0 =>
   bif inRange x.snd.snd.snd.snd.snd.snd.fst 4 then
    rec (x.fst, x.snd.fst, x.snd.snd.fst, x.snd.snd.snd.fst, x.snd.snd.snd.snd.fst, x.snd.snd.snd.snd.snd.fst, Go.IntKind.wrap Go.IntKind.i64 (x.snd.snd.snd.snd.snd.snd.fst + 1), y0.snd.fst, y0.snd.snd.fst, y0.snd.snd.snd.fst, y0.snd.snd.snd.snd.fst, y0.snd.snd.snd.snd.snd.fst, y0.snd.snd.snd.snd.snd.snd.fst, y0.snd.snd.snd.snd.snd.snd.snd.fst, y0.snd.snd.snd.snd.snd.snd.snd.snd.fst, y0.snd.snd.snd.snd.snd.snd.snd.snd.snd.fst, y0.snd.snd.snd.snd.snd.snd.snd.snd.snd.snd.fst, y0.snd.snd.snd.snd.snd.snd.snd.snd.snd.snd.snd.fst, x.snd.snd.snd.snd.snd.snd.snd.snd.snd.snd.snd.snd.snd.snd.snd.snd.snd.snd.fst, x.snd.snd.snd.snd.snd.snd.snd.snd.snd.snd.snd.snd.snd.snd.snd.snd.snd.snd.snd.fst, x.snd.snd.snd.snd.snd.snd.snd.snd.snd.snd.snd.snd.snd.snd.snd.snd.snd.snd.snd.snd.fst, x.snd.snd.snd.snd.snd.snd.snd.snd.snd.snd.snd.snd.snd.snd.snd.snd.snd.snd.snd.snd.snd.fst, x.snd.snd.snd.snd.snd.snd.snd.snd.snd.snd.snd.snd.snd.snd.snd.snd.snd.snd.snd.snd.snd.snd.fst, x.snd.snd.snd.snd.snd.snd.snd.snd.snd.snd.snd.snd.snd.snd.snd.snd.snd.snd.snd.snd.snd.snd.snd.fst, x.snd.snd.snd.snd.snd.snd.snd.snd.snd.snd.snd.snd.snd.snd.snd.snd.snd.snd.snd.snd.snd.snd.snd.snd.fst, x.snd.snd.snd.snd.snd.snd.snd.snd.snd.snd.snd.snd.snd.snd.snd.snd.snd.snd.snd.snd.snd.snd.snd.snd.snd.fst, x.snd.snd.snd.snd.snd.snd.snd.snd.snd.snd.snd.snd.snd.snd.snd.snd.snd.snd.snd.snd.snd.snd.snd.snd.snd.snd.fst, if Int.toNat x.snd.snd.snd.snd.snd.snd.fst = 0 / 1 then y0.fst else x.snd.snd.snd.snd.snd.snd.snd.snd.snd.snd.snd.snd.snd.snd.snd.snd.snd.snd.snd.snd.snd.snd.snd.snd.snd.snd.snd.fst, if Int.toNat x.snd.snd.snd.snd.snd.snd.fst = (0 + 1) / 1 then y0.fst else x.snd.snd.snd.snd.snd.snd.snd.snd.snd.snd.snd.snd.snd.snd.snd.snd.snd.snd.snd.snd.snd.snd.snd.snd.snd.snd.snd.snd.fst, if Int.toNat x.snd.snd.snd.snd.snd.snd.fst = (0 + 1 + 1) / 1 then y0.fst else x.snd.snd.snd.snd.snd.snd.snd.snd.snd.snd.snd.snd.snd.snd.snd.snd.snd.snd.snd.snd.snd.snd.snd.snd.snd.snd.snd.snd.snd.fst, if Int.toNat x.snd.snd.snd.snd.snd.snd.fst = (0 + 1 + 1 + 1) / 1 then y0.fst else x.snd.snd.snd.snd.snd.snd.snd.snd.snd.snd.snd.snd.snd.snd.snd.snd.snd.snd.snd.snd.snd.snd.snd.snd.snd.snd.snd.snd.snd.snd.fst, ())
   else
    none
 else
  bif Int.tmod x.snd.snd.snd.snd.snd.snd.snd.snd.snd.snd.snd.snd.snd.snd.snd.snd.snd.snd.fst 3 == 0 then
   Option.bind (f33 x.snd.snd.snd.snd.snd.snd.snd.snd.snd.snd.snd.snd.snd.snd.snd.snd.snd.snd.snd.fst 300) fun y1 =>
    Option.bind (f36 y1.fst x.snd.snd.snd.snd.snd.snd.snd.fst x.snd.snd.snd.snd.snd.snd.snd.snd.fst x.snd.snd.snd.snd.snd.snd.snd.snd.snd.fst x.snd.snd.snd.snd.snd.snd.snd.snd.snd.snd.fst x.snd.snd.snd.snd.snd.snd.snd.snd.snd.snd.snd.fst x.snd.snd.snd.snd.snd.snd.snd.snd.snd.snd.snd.snd.fst x.snd.snd.snd.snd.snd.snd.snd.snd.snd.snd.snd.snd.snd.fst x.snd.snd.snd.snd.snd.snd.snd.snd.snd.snd.snd.snd.snd.snd.fst x.snd.snd.snd.snd.snd.snd.snd.snd.snd.snd.snd.snd.snd.snd.snd.fst x.snd.snd.snd.snd.snd.snd.snd.snd.snd.snd.snd.snd.snd.snd.snd.snd.fst x.snd.snd.snd.snd.snd.snd.snd.snd.snd.snd.snd.snd.snd.snd.snd.snd.snd.fst) fun y2 =>
     bif y2.fst then
      Option.bind (f38 y2.snd.fst y2.snd.snd.fst y2.snd.snd.snd.fst y2.snd.snd.snd.snd.fst y2.snd.snd.snd.snd.snd.fst y2.snd.snd.snd.snd.snd.snd.fst y2.snd.snd.snd.snd.snd.snd.snd.fst y2.snd.snd.snd.snd.snd.snd.snd.snd.fst y2.snd.snd.snd.snd.snd.snd.snd.snd.snd.fst y2.snd.snd.snd.snd.snd.snd.snd.snd.snd.snd.fst y2.snd.snd.snd.snd.snd.snd.snd.snd.snd.snd.snd.fst) fun y3 =>
       bif Decidable.decide (y3.fst < x.snd.snd.snd.snd.fst) then
        some ((Bool.false, ()))
       else
        Option.bind (f39 y3.snd.fst y3.snd.snd.fst y3.snd.snd.snd.fst y3.snd.snd.snd.snd.fst y3.snd.snd.snd.snd.snd.fst y3.snd.snd.snd.snd.snd.snd.fst y3.snd.snd.snd.snd.snd.snd.snd.fst y3.snd.snd.snd.snd.snd.snd.snd.snd.fst y3.snd.snd.snd.snd.snd.snd.snd.snd.snd.fst y3.snd.snd.snd.snd.snd.snd.snd.snd.snd.snd.fst y3.snd.snd.snd.snd.snd.snd.snd.snd.snd.snd.snd.fst) fun y4 =>
         bif Decidable.decide (y4.fst < x.snd.snd.snd.snd.snd.fst) then
          some ((Bool.false, ()))
         else
          Option.bind (f37 y4.snd.fst y4.snd.snd.fst y4.snd.snd.snd.fst y4.snd.snd.snd.snd.fst y4.snd.snd.snd.snd.snd.fst y4.snd.snd.snd.snd.snd.snd.fst y4.snd.snd.snd.snd.snd.snd.snd.fst y4.snd.snd.snd.snd.snd.snd.snd.snd.fst y4.snd.snd.snd.snd.snd.snd.snd.snd.snd.fst y4.snd.snd.snd.snd.snd.snd.snd.snd.snd.snd.fst y4.snd.snd.snd.snd.snd.snd.snd.snd.snd.snd.snd.fst) fun y5 =>
           bif y5.fst != 7 then
            some ((Bool.false, ()))
           else
            f10.L1 k0 ((x.fst, x.snd.fst, Bool.true, x.snd.snd.snd.fst, 0, y5.snd.fst, y5.snd.snd.fst, y5.snd.snd.snd.fst, y5.snd.snd.snd.snd.fst, y5.snd.snd.snd.snd.snd.fst, y5.snd.snd.snd.snd.snd.snd.fst, y5.snd.snd.snd.snd.snd.snd.snd.fst, y5.snd.snd.snd.snd.snd.snd.snd.snd.fst, y5.snd.snd.snd.snd.snd.snd.snd.snd.snd.fst, y5.snd.snd.snd.snd.snd.snd.snd.snd.snd.snd.fst, y5.snd.snd.snd.snd.snd.snd.snd.snd.snd.snd.snd.fst, x.snd.snd.snd.snd.snd.snd.snd.snd.snd.snd.snd.snd.snd.snd.snd.snd.snd.snd.snd.snd.snd.snd.snd.snd.snd.snd.snd.fst, x.snd.snd.snd.snd.snd.snd.snd.snd.snd.snd.snd.snd.snd.snd.snd.snd.snd.snd.snd.snd.snd.snd.snd.snd.snd.snd.snd.snd.fst, x.snd.snd.snd.snd.snd.snd.snd.snd.snd.snd.snd.snd.snd.snd.snd.snd.snd.snd.snd.snd.snd.snd.snd.snd.snd.snd.snd.snd.snd.fst, x.snd.snd.snd.snd.snd.snd.snd.snd.snd.snd.snd.snd.snd.snd.snd.snd.snd.snd.snd.snd.snd.snd.snd.snd.snd.snd.snd.snd.snd.snd.fst, ()))
     else
      Option.bind (f38 y2.snd.fst y2.snd.snd.fst y2.snd.snd.snd.fst y2.snd.snd.snd.snd.fst y2.snd.snd.snd.snd.snd.fst y2.snd.snd.snd.snd.snd.snd.fst y2.snd.snd.snd.snd.snd.snd.snd.fst y2.snd.snd.snd.snd.snd.snd.snd.snd.fst y2.snd.snd.snd.snd.snd.snd.snd.snd.snd.fst y2.snd.snd.snd.snd.snd.snd.snd.snd.snd.snd.fst y2.snd.snd.snd.snd.snd.snd.snd.snd.snd.snd.snd.fst) fun y6 =>
       bif Decidable.decide (y6.fst < x.snd.snd.snd.snd.fst) then
        some ((Bool.false, ()))
       else
        Option.bind (f39 y6.snd.fst y6.snd.snd.fst y6.snd.snd.snd.fst y6.snd.snd.snd.snd.fst y6.snd.snd.snd.snd.snd.fst y6.snd.snd.snd.snd.snd.snd.fst y6.snd.snd.snd.snd.snd.snd.snd.fst y6.snd.snd.snd.snd.snd.snd.snd.snd.fst y6.snd.snd.snd.snd.snd.snd.snd.snd.snd.fst y6.snd.snd.snd.snd.snd.snd.snd.snd.snd.snd.fst y6.snd.snd.snd.snd.snd.snd.snd.snd.snd.snd.snd.fst) fun y7 =>
         bif Decidable.decide (y7.fst < x.snd.snd.snd.snd.snd.fst) then
          some ((Bool.false, ()))
         else
          bif x.snd.snd.fst then
           Option.bind (f37 y7.snd.fst y7.snd.snd.fst y7.snd.snd.snd.fst y7.snd.snd.snd.snd.fst y7.snd.snd.snd.snd.snd.fst y7.snd.snd.snd.snd.snd.snd.fst y7.snd.snd.snd.snd.snd.snd.snd.fst y7.snd.snd.snd.snd.snd.snd.snd.snd.fst y7.snd.snd.snd.snd.snd.snd.snd.snd.snd.fst y7.snd.snd.snd.snd.snd.snd.snd.snd.snd.snd.fst y7.snd.snd.snd.snd.snd.snd.snd.snd.snd.snd.snd.fst) fun y8 =>
            bif y8.fst != 7 then
             some ((Bool.false, ()))
            else
             f10.L1 k0 ((x.fst, x.snd.fst, x.snd.snd.fst, x.snd.snd.snd.fst, 0, y8.snd.fst, y8.snd.snd.fst, y8.snd.snd.snd.fst, y8.snd.snd.snd.snd.fst, y8.snd.snd.snd.snd.snd.fst, y8.snd.snd.snd.snd.snd.snd.fst, y8.snd.snd.snd.snd.snd.snd.snd.fst, y8.snd.snd.snd.snd.snd.snd.snd.snd.fst, y8.snd.snd.snd.snd.snd.snd.snd.snd.snd.fst, y8.snd.snd.snd.snd.snd.snd.snd.snd.snd.snd.fst, y8.snd.snd.snd.snd.snd.snd.snd.snd.snd.snd.snd.fst, x.snd.snd.snd.snd.snd.snd.snd.snd.snd.snd.snd.snd.snd.snd.snd.snd.snd.snd.snd.snd.snd.snd.snd.snd.snd.snd.snd.fst, x.snd.snd.snd.snd.snd.snd.snd.snd.snd.snd.snd.snd.snd.snd.snd.snd.snd.snd.snd.snd.snd.snd.snd.snd.snd.snd.snd.snd.fst, x.snd.snd.snd.snd.snd.snd.snd.snd.snd.snd.snd.snd.snd.snd.snd.snd.snd.snd.snd.snd.snd.snd.snd.snd.snd.snd.snd.snd.snd.fst, x.snd.snd.snd.snd.snd.snd.snd.snd.snd.snd.snd.snd.snd.snd.snd.snd.snd.snd.snd.snd.snd.snd.snd.snd.snd.snd.snd.snd.snd.snd.fst, ()))
          else
           f10.L1 k0 ((x.fst, x.snd.fst, x.snd.snd.fst, x.snd.snd.snd.fst, 0, y7.snd.fst, y7.snd.snd.fst, y7.snd.snd.snd.fst, y7.snd.snd.snd.snd.fst, y7.snd.snd.snd.snd.snd.fst, y7.snd.snd.snd.snd.snd.snd.fst, y7.snd.snd.snd.snd.snd.snd.snd.fst, y7.snd.snd.snd.snd.snd.snd.snd.snd.fst, y7.snd.snd.snd.snd.snd.snd.snd.snd.snd.fst, y7.snd.snd.snd.snd.snd.snd.snd.snd.snd.snd.fst, y7.snd.snd.snd.snd.snd.snd.snd.snd.snd.snd.snd.fst, x.snd.snd.snd.snd.snd.snd.snd.snd.snd.snd.snd.snd.snd.snd.snd.snd.snd.snd.snd.snd.snd.snd.snd.snd.snd.snd.snd.fst, x.snd.snd.snd.snd.snd.snd.snd.snd.snd.snd.snd.snd.snd.snd.snd.snd.snd.snd.snd.snd.snd.snd.snd.snd.snd.snd.snd.snd.fst, x.snd.snd.snd.snd.snd.snd.snd.snd.snd.snd.snd.snd.snd.snd.snd.snd.snd.snd.snd.snd.snd.snd.snd.snd.snd.snd.snd.snd.snd.fst, x.snd.snd.snd.snd.snd.snd.snd.snd.snd.snd.snd.snd.snd.snd.snd.snd.snd.snd.snd.snd.snd.snd.snd.snd.snd.snd.snd.snd.snd.snd.fst, ()))
  else
   Option.bind (f33 x.snd.snd.snd.snd.snd.snd.snd.snd.snd.snd.snd.snd.snd.snd.snd.snd.snd.snd.snd.snd.fst 500) fun y9 =>
    Option.bind (f33 x.snd.snd.snd.snd.snd.snd.snd.snd.snd.snd.snd.snd.snd.snd.snd.snd.snd.snd.snd.snd.snd.snd.snd.fst 500) fun y10 =>
     Option.bind (f33 x.snd.snd.snd.snd.snd.snd.snd.snd.snd.snd.snd.snd.snd.snd.snd.snd.snd.snd.snd.snd.snd.snd.snd.snd.fst 500) fun y11 =>
      Option.bind (f33 x.snd.snd.snd.snd.snd.snd.snd.snd.snd.snd.snd.snd.snd.snd.snd.snd.snd.snd.snd.snd.snd.fst 500) fun y12 =>
       Option.bind (f35 x.snd.snd.snd.snd.snd.snd.snd.snd.snd.snd.snd.snd.snd.snd.snd.snd.snd.snd.snd.snd.snd.snd.fst y9.fst y10.fst y11.fst 0 0 y12.fst x.snd.snd.snd.snd.snd.snd.snd.fst x.snd.snd.snd.snd.snd.snd.snd.snd.fst x.snd.snd.snd.snd.snd.snd.snd.snd.snd.fst x.snd.snd.snd.snd.snd.snd.snd.snd.snd.snd.fst x.snd.snd.snd.snd.snd.snd.snd.snd.snd.snd.snd.fst x.snd.snd.snd.snd.snd.snd.snd.snd.snd.snd.snd.snd.fst x.snd.snd.snd.snd.snd.snd.snd.snd.snd.snd.snd.snd.snd.fst x.snd.snd.snd.snd.snd.snd.snd.snd.snd.snd.snd.snd.snd.snd.fst x.snd.snd.snd.snd.snd.snd.snd.snd.snd.snd.snd.snd.snd.snd.snd.fst x.snd.snd.snd.snd.snd.snd.snd.snd.snd.snd.snd.snd.snd.snd.snd.snd.fst x.snd.snd.snd.snd.snd.snd.snd.snd.snd.snd.snd.snd.snd.snd.snd.snd.snd.fst) fun y13 =>
        Option.bind (f38 y13.fst y13.snd.fst y13.snd.snd.fst y13.snd.snd.snd.fst y13.snd.snd.snd.snd.fst y13.snd.snd.snd.snd.snd.fst y13.snd.snd.snd.snd.snd.snd.fst y13.snd.snd.snd.snd.snd.snd.snd.fst y13.snd.snd.snd.snd.snd.snd.snd.snd.fst y13.snd.snd.snd.snd.snd.snd.snd.snd.snd.fst y13.snd.snd.snd.snd.snd.snd.snd.snd.snd.snd.fst) fun y14 =>
         bif Decidable.decide (y14.fst < x.snd.snd.snd.snd.fst) then
          some ((Bool.false, ()))
         else
          Option.bind (f39 y14.snd.fst y14.snd.snd.fst y14.snd.snd.snd.fst y14.snd.snd.snd.snd.fst y14.snd.snd.snd.snd.snd.fst y14.snd.snd.snd.snd.snd.snd.fst y14.snd.snd.snd.snd.snd.snd.snd.fst y14.snd.snd.snd.snd.snd.snd.snd.snd.fst y14.snd.snd.snd.snd.snd.snd.snd.snd.snd.fst y14.snd.snd.snd.snd.snd.snd.snd.snd.snd.snd.fst y14.snd.snd.snd.snd.snd.snd.snd.snd.snd.snd.snd.fst) fun y15 =>
           bif Decidable.decide (y15.fst < x.snd.snd.snd.snd.snd.fst) then
            some ((Bool.false, ()))
           else
            bif x.snd.snd.fst then
             Option.bind (f37 y15.snd.fst y15.snd.snd.fst y15.snd.snd.snd.fst y15.snd.snd.snd.snd.fst y15.snd.snd.snd.snd.snd.fst y15.snd.snd.snd.snd.snd.snd.fst y15.snd.snd.snd.snd.snd.snd.snd.fst y15.snd.snd.snd.snd.snd.snd.snd.snd.fst y15.snd.snd.snd.snd.snd.snd.snd.snd.snd.fst y15.snd.snd.snd.snd.snd.snd.snd.snd.snd.snd.fst y15.snd.snd.snd.snd.snd.snd.snd.snd.snd.snd.snd.fst) fun y16 =>
              bif y16.fst != 7 then
               some ((Bool.false, ()))
              else
               f10.L1 k0 ((x.fst, x.snd.fst, x.snd.snd.fst, x.snd.snd.snd.fst, 0, y16.snd.fst, y16.snd.snd.fst, y16.snd.snd.snd.fst, y16.snd.snd.snd.snd.fst, y16.snd.snd.snd.snd.snd.fst, y16.snd.snd.snd.snd.snd.snd.fst, y16.snd.snd.snd.snd.snd.snd.snd.fst, y16.snd.snd.snd.snd.snd.snd.snd.snd.fst, y16.snd.snd.snd.snd.snd.snd.snd.snd.snd.fst, y16.snd.snd.snd.snd.snd.snd.snd.snd.snd.snd.fst, y16.snd.snd.snd.snd.snd.snd.snd.snd.snd.snd.snd.fst, x.snd.snd.snd.snd.snd.snd.snd.snd.snd.snd.snd.snd.snd.snd.snd.snd.snd.snd.snd.snd.snd.snd.snd.snd.snd.snd.snd.fst, x.snd.snd.snd.snd.snd.snd.snd.snd.snd.snd.snd.snd.snd.snd.snd.snd.snd.snd.snd.snd.snd.snd.snd.snd.snd.snd.snd.snd.fst, x.snd.snd.snd.snd.snd.snd.snd.snd.snd.snd.snd.snd.snd.snd.snd.snd.snd.snd.snd.snd.snd.snd.snd.snd.snd.snd.snd.snd.snd.fst, x.snd.snd.snd.snd.snd.snd.snd.snd.snd.snd.snd.snd.snd.snd.snd.snd.snd.snd.snd.snd.snd.snd.snd.snd.snd.snd.snd.snd.snd.snd.fst, ()))
            else
             f10.L1 k0 ((x.fst, x.snd.fst, x.snd.snd.fst, x.snd.snd.snd.fst, 0, y15.snd.fst, y15.snd.snd.fst, y15.snd.snd.snd.fst, y15.snd.snd.snd.snd.fst, y15.snd.snd.snd.snd.snd.fst, y15.snd.snd.snd.snd.snd.snd.fst, y15.snd.snd.snd.snd.snd.snd.snd.fst, y15.snd.snd.snd.snd.snd.snd.snd.snd.fst, y15.snd.snd.snd.snd.snd.snd.snd.snd.snd.fst, y15.snd.snd.snd.snd.snd.snd.snd.snd.snd.snd.fst, y15.snd.snd.snd.snd.snd.snd.snd.snd.snd.snd.snd.fst, x.snd.snd.snd.snd.snd.snd.snd.snd.snd.snd.snd.snd.snd.snd.snd.snd.snd.snd.snd.snd.snd.snd.snd.snd.snd.snd.snd.fst, x.snd.snd.snd.snd.snd.snd.snd.snd.snd.snd.snd.snd.snd.snd.snd.snd.snd.snd.snd.snd.snd.snd.snd.snd.snd.snd.snd.snd.fst, x.snd.snd.snd.snd.snd.snd.snd.snd.snd.snd.snd.snd.snd.snd.snd.snd.snd.snd.snd.snd.snd.snd.snd.snd.snd.snd.snd.snd.snd.fst, x.snd.snd.snd.snd.snd.snd.snd.snd.snd.snd.snd.snd.snd.snd.snd.snd.snd.snd.snd.snd.snd.snd.snd.snd.snd.snd.snd.snd.snd.snd.fst, ()))
 ) (100000000000000000000) (x)
def f10.L3 (x : Int × List (Int × Int × Int × Int × Int × Int × Int × Int × Int) × Bool × Int × Int × Int × Bool × Int × Int × Int × Int × Int × Int × Int × Int × Unit) : Option (Bool × Unit) :=
 it (X := Int × List (Int × Int × Int × Int × Int × Int × Int × Int × Int) × Bool × Int × Int × Int × Bool × Int × Int × Int × Int × Int × Int × Int × Int × Unit) (fun rec x =>
 bif Decidable.decide (x.snd.snd.snd.fst < (↑(List.length x.snd.fst) : Int)) then
  bif Decidable.decide (x.snd.snd.snd.fst < 60) then
   bif inRange x.snd.snd.snd.fst (List.length x.snd.fst) then
    Option.bind (f38 x.snd.snd.snd.snd.fst x.snd.snd.snd.snd.snd.fst x.snd.snd.snd.snd.snd.snd.fst x.snd.snd.snd.snd.snd.snd.snd.fst x.snd.snd.snd.snd.snd.snd.snd.snd.fst x.snd.snd.snd.snd.snd.snd.snd.snd.snd.fst x.snd.snd.snd.snd.snd.snd.snd.snd.snd.snd.fst x.snd.snd.snd.snd.snd.snd.snd.snd.snd.snd.snd.fst x.snd.snd.snd.snd.snd.snd.snd.snd.snd.snd.snd.snd.fst x.snd.snd.snd.snd.snd.snd.snd.snd.snd.snd.snd.snd.snd.fst x.snd.snd.snd.snd.snd.snd.snd.snd.snd.snd.snd.snd.snd.snd.fst) fun y0 =>
     Option.bind (f39 y0.snd.fst y0.snd.snd.fst y0.snd.snd.snd.fst y0.snd.snd.snd.snd.fst y0.snd.snd.snd.snd.snd.fst y0.snd.snd.snd.snd.snd.snd.fst y0.snd.snd.snd.snd.snd.snd.snd.fst y0.snd.snd.snd.snd.snd.snd.snd.snd.fst y0.snd.snd.snd.snd.snd.snd.snd.snd.snd.fst y0.snd.snd.snd.snd.snd.snd.snd.snd.snd.snd.fst y0.snd.snd.snd.snd.snd.snd.snd.snd.snd.snd.snd.fst) fun y1 =>
      f10.L2 rec ((x.fst, x.snd.fst, x.snd.snd.fst, x.snd.snd.snd.fst, y0.fst, y1.fst, 0, y1.snd.fst, y1.snd.snd.fst, y1.snd.snd.snd.fst, y1.snd.snd.snd.snd.fst, y1.snd.snd.snd.snd.snd.fst, y1.snd.snd.snd.snd.snd.snd.fst, y1.snd.snd.snd.snd.snd.snd.snd.fst, y1.snd.snd.snd.snd.snd.snd.snd.snd.fst, y1.snd.snd.snd.snd.snd.snd.snd.snd.snd.fst, y1.snd.snd.snd.snd.snd.snd.snd.snd.snd.snd.fst, y1.snd.snd.snd.snd.snd.snd.snd.snd.snd.snd.snd.fst, (List.getD x.snd.fst (Int.toNat x.snd.snd.snd.fst) (0, 0, 0, 0, 0, 0, 0, 0, 0)).fst, (List.getD x.snd.fst (Int.toNat x.snd.snd.snd.fst) (0, 0, 0, 0, 0, 0, 0, 0, 0)).snd.fst, (List.getD x.snd.fst (Int.toNat x.snd.snd.snd.fst) (0, 0, 0, 0, 0, 0, 0, 0, 0)).snd.snd.fst, (List.getD x.snd.fst (Int.toNat x.snd.snd.snd.fst) (0, 0, 0, 0, 0, 0, 0, 0, 0)).snd.snd.snd.fst, (List.getD x.snd.fst (Int.toNat x.snd.snd.snd.fst) (0, 0, 0, 0, 0, 0, 0, 0, 0)).snd.snd.snd.snd.fst, (List.getD x.snd.fst (Int.toNat x.snd.snd.snd.fst) (0, 0, 0, 0, 0, 0, 0, 0, 0)).snd.snd.snd.snd.snd.fst, (List.getD x.snd.fst (Int.toNat x.snd.snd.snd.fst) (0, 0, 0, 0, 0, 0, 0, 0, 0)).snd.snd.snd.snd.snd.snd.fst, (List.getD x.snd.fst (Int.toNat x.snd.snd.snd.fst) (0, 0, 0, 0, 0, 0, 0, 0, 0)).snd.snd.snd.snd.snd.snd.snd.fst, (List.getD x.snd.fst (Int.toNat x.snd.snd.snd.fst) (0, 0, 0, 0, 0, 0, 0, 0, 0)).snd.snd.snd.snd.snd.snd.snd.snd, 0, 0, 0, 0, ()))
   else
    none
  else
   some ((Bool.true, ()))
 else
  some ((Bool.true, ()))
 ) (100000000000000000000) (x)
def f10.L4 (k0 : Int × List (Int × Int × Int × Int × Int × Int × Int × Int × Int) × Bool × Int × Int × Int × Bool × Int × Int × Int × Int × Int × Int × Int × Int × Int × List Bool × Unit → Option (Bool × Unit)) (x : Int × List (Int × Int × Int × Int × Int × Int × Int × Int × Int) × Bool × Int × Int × Int × Int × Bool × Int × Int × Int × Int × Int × Int × Int × Int × Int × Int × Int × Int × Int × List Bool × Unit) : Option (Bool × Unit) :=
 it (X := Int × List (Int × Int × Int × Int × Int × Int × Int × Int × Int) × Bool × Int × Int × Int × Int × Bool × Int × Int × Int × Int × Int × Int × Int × Int × Int × Int × Int × Int × Int × List Bool × Unit) (fun rec x =>
 bif Decidable.decide (x.snd.snd.snd.snd.fst < 4) then
  Option.bind (f40_1 x.snd.snd.snd.snd.fst x.snd.snd.snd.snd.snd.fst x.snd.snd.snd.snd.snd.snd.fst x.snd.snd.snd.snd.snd.snd.snd.fst x.snd.snd.snd.snd.snd.snd.snd.snd.fst x.snd.snd.snd.snd.snd.snd.snd.snd.snd.fst x.snd.snd.snd.snd.snd.snd.snd.snd.snd.snd.fst x.snd.snd.snd.snd.snd.snd.snd.snd.snd.snd.snd.fst x.snd.snd.snd.snd.snd.snd.snd.snd.snd.snd.snd.snd.fst x.snd.snd.snd.snd.snd.snd.snd.snd.snd.snd.snd.snd.snd.fst x.snd.snd.snd.snd.snd.snd.snd.snd.snd.snd.snd.snd.snd.snd.fst x.snd.snd.snd.snd.snd.snd.snd.snd.snd.snd.snd.snd.snd.snd.snd.fst x.snd.snd.snd.snd.snd.snd.snd.snd.snd.snd.snd.snd.snd.snd.snd.snd.snd.snd.snd.snd.fst x.snd.snd.snd.snd.snd.snd.snd.snd.snd.snd.snd.snd.snd.snd.snd.snd.snd.snd.snd.snd.snd.fst) fun y0 =>
   bif inRange x.snd.snd.snd.snd.fst 4 then
    bif Decidable.decide (y0.fst < List.getD [x.snd.snd.snd.snd.snd.snd.snd.snd.snd.snd.snd.snd.snd.snd.snd.snd.fst, x.snd.snd.snd.snd.snd.snd.snd.snd.snd.snd.snd.snd.snd.snd.snd.snd.snd.fst, x.snd.snd.snd.snd.snd.snd.snd.snd.snd.snd.snd.snd.snd.snd.snd.snd.snd.snd.fst, x.snd.snd.snd.snd.snd.snd.snd.snd.snd.snd.snd.snd.snd.snd.snd.snd.snd.snd.snd.fst] (Int.toNat x.snd.snd.snd.snd.fst) 0) then
     some ((Bool.false, ()))
    else
     Option.bind (f40_1 x.snd.snd.snd.snd.fst y0.snd.fst y0.snd.snd.fst y0.snd.snd.snd.fst y0.snd.snd.snd.snd.fst y0.snd.snd.snd.snd.snd.fst y0.snd.snd.snd.snd.snd.snd.fst y0.snd.snd.snd.snd.snd.snd.snd.fst y0.snd.snd.snd.snd.snd.snd.snd.snd.fst y0.snd.snd.snd.snd.snd.snd.snd.snd.snd.fst y0.snd.snd.snd.snd.snd.snd.snd.snd.snd.snd.fst y0.snd.snd.snd.snd.snd.snd.snd.snd.snd.snd.snd.fst y0.snd.snd.snd.snd.snd.snd.snd.snd.snd.snd.snd.snd.fst y0.snd.snd.snd.snd.snd.snd.snd.snd.snd.snd.snd.snd.snd.fst) fun y1 =>
      bif Decidable.decide (y1.fst < x.fst) then
       some ((Bool.false, ()))
      else
       rec (x.fst, x.snd.fst, x.snd.snd.fst, x.snd.snd.snd.fst, Go.IntKind.wrap Go.IntKind.i64 (x.snd.snd.snd.snd.fst + 1), y1.snd.fst, y1.snd.snd.fst, y1.snd.snd.snd.fst, y1.snd.snd.snd.snd.fst, y1.snd.snd.snd.snd.snd.fst, y1.snd.snd.snd.snd.snd.snd.fst, y1.snd.snd.snd.snd.snd.snd.snd.fst, y1.snd.snd.snd.snd.snd.snd.snd.snd.fst, y1.snd.snd.snd.snd.snd.snd.snd.snd.snd.fst, y1.snd.snd.snd.snd.snd.snd.snd.snd.snd.snd.fst, y1.snd.snd.snd.snd.snd.snd.snd.snd.snd.snd.snd.fst, x.snd.snd.snd.snd.snd.snd.snd.snd.snd.snd.snd.snd.snd.snd.snd.snd.fst, x.snd.snd.snd.snd.snd.snd.snd.snd.snd.snd.snd.snd.snd.snd.snd.snd.snd.fst, x.snd.snd.snd.snd.snd.snd.snd.snd.snd.snd.snd.snd.snd.snd.snd.snd.snd.snd.fst, x.snd.snd.snd.snd.snd.snd.snd.snd.snd.snd.snd.snd.snd.snd.snd.snd.snd.snd.snd.fst, y1.snd.snd.snd.snd.snd.snd.snd.snd.snd.snd.snd.snd.fst, y1.snd.snd.snd.snd.snd.snd.snd.snd.snd.snd.snd.snd.snd.fst, ())
   else
    none
 else
  k0 (x.fst, x.snd.fst, x.snd.snd.fst, Go.IntKind.wrap Go.IntKind.i64 (x.snd.snd.snd.fst + 1), x.snd.snd.snd.snd.snd.fst, x.snd.snd.snd.snd.snd.snd.fst, x.snd.snd.snd.snd.snd.snd.snd.fst, x.snd.snd.snd.snd.snd.snd.snd.snd.fst, x.snd.snd.snd.snd.snd.snd.snd.snd.snd.fst, x.snd.snd.snd.snd.snd.snd.snd.snd.snd.snd.fst, x.snd.snd.snd.snd.snd.snd.snd.snd.snd.snd.snd.fst, x.snd.snd.snd.snd.snd.snd.snd.snd.snd.snd.snd.snd.fst, x.snd.snd.snd.snd.snd.snd.snd.snd.snd.snd.snd.snd.snd.fst, x.snd.snd.snd.snd.snd.snd.snd.snd.snd.snd.snd.snd.snd.snd.fst, x.snd.snd.snd.snd.snd.snd.snd.snd.snd.snd.snd.snd.snd.snd.snd.fst, x.snd.snd.snd.snd.snd.snd.snd.snd.snd.snd.snd.snd.snd.snd.snd.snd.snd.snd.snd.snd.fst, x.snd.snd.snd.snd.snd.snd.snd.snd.snd.snd.snd.snd.snd.snd.snd.snd.snd.snd.snd.snd.snd.fst, ())
 ) (100000000000000000000) (x)
def f10.L5 (k0 : Int × List (Int × Int × Int × Int × Int × Int × Int × Int × Int) × Bool × Int × Int × Int × Bool × Int × Int × Int × Int × Int × Int × Int × Int × Int × List Bool × Unit → Option (Bool × Unit)) (x : Int × List (Int × Int × Int × Int × Int × Int × Int × Int × Int) × Bool × Int × Int × Int × Int × Int × Int × Bool × Int × Int × Int × Int × Int × Int × Int × Int × Int × Int × Int × Int × Int × Int × Int × Int × Int × Int × Int × Int × Int × Int × List Bool × Unit) : Option (Bool × Unit) :=
 it (X := Int × List (Int × Int × Int × Int × Int × Int × Int × Int × Int) × Bool × Int × Int × Int × Int × Int × Int × Bool × Int × Int × Int × Int × Int × Int × Int × Int × Int × Int × Int × Int × Int × Int × Int × Int × Int × Int × Int × Int × Int × Int × List Bool × Unit) (fun rec x =>
 bif Decidable.decide (x.snd.snd.snd.snd.snd.snd.fst < 4) then
  Option.bind (f40_1 x.snd.snd.snd.snd.snd.snd.fst x.snd.snd.snd.snd.snd.snd.snd.fst x.snd.snd.snd.snd.snd.snd.snd.snd.fst x.snd.snd.snd.snd.snd.snd.snd.snd.snd.fst x.snd.snd.snd.snd.snd.snd.snd.snd.snd.snd.fst x.snd.snd.snd.snd.snd.snd.snd.snd.snd.snd.snd.fst x.snd.snd.snd.snd.snd.snd.snd.snd.snd.snd.snd.snd.fst x.snd.snd.snd.snd.snd.snd.snd.snd.snd.snd.snd.snd.snd.fst x.snd.snd.snd.snd.snd.snd.snd.snd.snd.snd.snd.snd.snd.snd.fst x.snd.snd.snd.snd.snd.snd.snd.snd.snd.snd.snd.snd.snd.snd.snd.fst x.snd.snd.snd.snd.snd.snd.snd.snd.snd.snd.snd.snd.snd.snd.snd.snd.fst x.snd.snd.snd.snd.snd.snd.snd.snd.snd.snd.snd.snd.snd.snd.snd.snd.snd.fst x.snd.snd.snd.snd.snd.snd.snd.snd.snd.snd.snd.snd.snd.snd.snd.snd.snd.snd.snd.snd.snd.snd.snd.snd.snd.snd.snd.snd.snd.snd.snd.fst x.snd.snd.snd.snd.snd.snd.snd.snd.snd.snd.snd.snd.snd.snd.snd.snd.snd.snd.snd.snd.snd.snd.snd.snd.snd.snd.snd.snd.snd.snd.snd.snd.fst) fun y0 =>
   bif inRange x.snd.snd.snd.snd.snd.snd.fst 4 then
    rec (x.fst, x.snd.fst, x.snd.snd.fst, x.snd.snd.snd.fst, x.snd.snd.snd.snd.fst, x.snd.snd.snd.snd.snd.fst, Go.IntKind.wrap Go.IntKind.i64 (x.snd.snd.snd.snd.snd.snd.fst + 1), y0.snd.fst, y0.snd.snd.fst, y0.snd.snd.snd.fst, y0.snd.snd.snd.snd.fst, y0.snd.snd.snd.snd.snd.fst, y0.snd.snd.snd.snd.snd.snd.fst, y0.snd.snd.snd.snd.snd.snd.snd.fst, y0.snd.snd.snd.snd.snd.snd.snd.snd.fst, y0.snd.snd.snd.snd.snd.snd.snd.snd.snd.fst, y0.snd.snd.snd.snd.snd.snd.snd.snd.snd.snd.fst, y0.snd.snd.snd.snd.snd.snd.snd.snd.snd.snd.snd.fst, x.snd.snd.snd.snd.snd.snd.snd.snd.snd.snd.snd.snd.snd.snd.snd.snd.snd.snd.fst, x.snd.snd.snd.snd.snd.snd.snd.snd.snd.snd.snd.snd.snd.snd.snd.snd.snd.snd.snd.fst, x.snd.snd.snd.snd.snd.snd.snd.snd.snd.snd.snd.snd.snd.snd.snd.snd.snd.snd.snd.snd.fst, x.snd.snd.snd.snd.snd.snd.snd.snd.snd.snd.snd.snd.snd.snd.snd.snd.snd.snd.snd.snd.snd.fst, x.snd.snd.snd.snd.snd.snd.snd.snd.snd.snd.snd.snd.snd.snd.snd.snd.snd.snd.snd.snd.snd.snd.fst, x.snd.snd.snd.snd.snd.snd.snd.snd.snd.snd.snd.snd.snd.snd.snd.snd.snd.snd.snd.snd.snd.snd.snd.fst, x.snd.snd.snd.snd.snd.snd.snd.snd.snd.snd.snd.snd.snd.snd.snd.snd.snd.snd.snd.snd.snd.snd.snd.snd.fst, x.snd.snd.snd.snd.snd.snd.snd.snd.snd.snd.snd.snd.snd.snd.snd.snd.snd.snd.snd.snd.snd.snd.snd.snd.snd.fst, x.snd.snd.snd.snd.snd.snd.snd.snd.snd.snd.snd.snd.snd.snd.snd.snd.snd.snd.snd.snd.snd.snd.snd.snd.snd.snd.fst, if Int.toNat x.snd.snd.snd.snd.snd.snd.fst = 0 / 1 then y0.fst else x.snd.snd.snd.snd.snd.snd.snd.snd.snd.snd.snd.snd.snd.snd.snd.snd.snd.snd.snd.snd.snd.snd.snd.snd.snd.snd.snd.fst, if Int.toNat x.snd.snd.snd.snd.snd.snd.fst = (0 + 1) / 1 then y0.fst else x.snd.snd.snd.snd.snd.snd.snd.snd.snd.snd.snd.snd.snd.snd.snd.snd.snd.snd.snd.snd.snd.snd.snd.snd.snd.snd.snd.snd.fst, if Int.toNat x.snd.snd.snd.snd.snd.snd.fst = (0 + 1 + 1) / 1 then y0.fst else x.snd.snd.snd.snd.snd.snd.snd.snd.snd.snd.snd.snd.snd.snd.snd.snd.snd.snd.snd.snd.snd.snd.snd.snd.snd.snd.snd.snd.snd.fst, if Int.toNat x.snd.snd.snd.snd.snd.snd.fst = (0 + 1 + 1 + 1) / 1 then y0.fst else x.snd.snd.snd.snd.snd.snd.snd.snd.snd.snd.snd.snd.snd.snd.snd.snd.snd.snd.snd.snd.snd.snd.snd.snd.snd.snd.snd.snd.snd.snd.fst, y0.snd.snd.snd.snd.snd.snd.snd.snd.snd.snd.snd.snd.fst, y0.snd.snd.snd.snd.snd.snd.snd.snd.snd.snd.snd.snd.snd.fst, ())
   else
    none
 else
  bif Int.tmod x.snd.snd.snd.snd.snd.snd.snd.snd.snd.snd.snd.snd.snd.snd.snd.snd.snd.snd.fst 3 == 0 then
   Option.bind (f33 x.snd.snd.snd.snd.snd.snd.snd.snd.snd.snd.snd.snd.snd.snd.snd.snd.snd.snd.snd.fst 300) fun y1 =>
    Option.bind (f36_1 y1.fst x.snd.snd.snd.snd.snd.snd.snd.fst x.snd.snd.snd.snd.snd.snd.snd.snd.fst x.snd.snd.snd.snd.snd.snd.snd.snd.snd.fst x.snd.snd.snd.snd.snd.snd.snd.snd.snd.snd.fst x.snd.snd.snd.snd.snd.snd.snd.snd.snd.snd.snd.fst x.snd.snd.snd.snd.snd.snd.snd.snd.snd.snd.snd.snd.fst x.snd.snd.snd.snd.snd.snd.snd.snd.snd.snd.snd.snd.snd.fst x.snd.snd.snd.snd.snd.snd.snd.snd.snd.snd.snd.snd.snd.snd.fst x.snd.snd.snd.snd.snd.snd.snd.snd.snd.snd.snd.snd.snd.snd.snd.fst x.snd.snd.snd.snd.snd.snd.snd.snd.snd.snd.snd.snd.snd.snd.snd.snd.fst x.snd.snd.snd.snd.snd.snd.snd.snd.snd.snd.snd.snd.snd.snd.snd.snd.snd.fst x.snd.snd.snd.snd.snd.snd.snd.snd.snd.snd.snd.snd.snd.snd.snd.snd.snd.snd.snd.snd.snd.snd.snd.snd.snd.snd.snd.snd.snd.snd.snd.fst x.snd.snd.snd.snd.snd.snd.snd.snd.snd.snd.snd.snd.snd.snd.snd.snd.snd.snd.snd.snd.snd.snd.snd.snd.snd.snd.snd.snd.snd.snd.snd.snd.fst) fun y2 =>
     bif y2.fst then
      Option.bind (f38_1 y2.snd.fst y2.snd.snd.fst y2.snd.snd.snd.fst y2.snd.snd.snd.snd.fst y2.snd.snd.snd.snd.snd.fst y2.snd.snd.snd.snd.snd.snd.fst y2.snd.snd.snd.snd.snd.snd.snd.fst y2.snd.snd.snd.snd.snd.snd.snd.snd.fst y2.snd.snd.snd.snd.snd.snd.snd.snd.snd.fst y2.snd.snd.snd.snd.snd.snd.snd.snd.snd.snd.fst y2.snd.snd.snd.snd.snd.snd.snd.snd.snd.snd.snd.fst y2.snd.snd.snd.snd.snd.snd.snd.snd.snd.snd.snd.snd.fst y2.snd.snd.snd.snd.snd.snd.snd.snd.snd.snd.snd.snd.snd.fst) fun y3 =>
       bif Decidable.decide (y3.fst < x.snd.snd.snd.snd.fst) then
        some ((Bool.false, ()))
       else
        Option.bind (f39_1 y3.snd.fst y3.snd.snd.fst y3.snd.snd.snd.fst y3.snd.snd.snd.snd.fst y3.snd.snd.snd.snd.snd.fst y3.snd.snd.snd.snd.snd.snd.fst y3.snd.snd.snd.snd.snd.snd.snd.fst y3.snd.snd.snd.snd.snd.snd.snd.snd.fst y3.snd.snd.snd.snd.snd.snd.snd.snd.snd.fst y3.snd.snd.snd.snd.snd.snd.snd.snd.snd.snd.fst y3.snd.snd.snd.snd.snd.snd.snd.snd.snd.snd.snd.fst y3.snd.snd.snd.snd.snd.snd.snd.snd.snd.snd.snd.snd.fst y3.snd.snd.snd.snd.snd.snd.snd.snd.snd.snd.snd.snd.snd.fst) fun y4 =>
         bif Decidable.decide (y4.fst < x.snd.snd.snd.snd.snd.fst) then
          some ((Bool.false, ()))
         else
          Option.bind (f37_1 y4.snd.fst y4.snd.snd.fst y4.snd.snd.snd.fst y4.snd.snd.snd.snd.fst y4.snd.snd.snd.snd.snd.fst y4.snd.snd.snd.snd.snd.snd.fst y4.snd.snd.snd.snd.snd.snd.snd.fst y4.snd.snd.snd.snd.snd.snd.snd.snd.fst y4.snd.snd.snd.snd.snd.snd.snd.snd.snd.fst y4.snd.snd.snd.snd.snd.snd.snd.snd.snd.snd.fst y4.snd.snd.snd.snd.snd.snd.snd.snd.snd.snd.snd.fst y4.snd.snd.snd.snd.snd.snd.snd.snd.snd.snd.snd.snd.fst y4.snd.snd.snd.snd.snd.snd.snd.snd.snd.snd.snd.snd.snd.fst) fun y5 =>
           bif y5.fst != 7 then
            some ((Bool.false, ()))
           else
            f10.L4 k0 ((x.fst, x.snd.fst, Bool.true, x.snd.snd.snd.fst, 0, y5.snd.fst, y5.snd.snd.fst, y5.snd.snd.snd.fst, y5.snd.snd.snd.snd.fst, y5.snd.snd.snd.snd.snd.fst, y5.snd.snd.snd.snd.snd.snd.fst, y5.snd.snd.snd.snd.snd.snd.snd.fst, y5.snd.snd.snd.snd.snd.snd.snd.snd.fst, y5.snd.snd.snd.snd.snd.snd.snd.snd.snd.fst, y5.snd.snd.snd.snd.snd.snd.snd.snd.snd.snd.fst, y5.snd.snd.snd.snd.snd.snd.snd.snd.snd.snd.snd.fst, x.snd.snd.snd.snd.snd.snd.snd.snd.snd.snd.snd.snd.snd.snd.snd.snd.snd.snd.snd.snd.snd.snd.snd.snd.snd.snd.snd.fst, x.snd.snd.snd.snd.snd.snd.snd.snd.snd.snd.snd.snd.snd.snd.snd.snd.snd.snd.snd.snd.snd.snd.snd.snd.snd.snd.snd.snd.fst, x.snd.snd.snd.snd.snd.snd.snd.snd.snd.snd.snd.snd.snd.snd.snd.snd.snd.snd.snd.snd.snd.snd.snd.snd.snd.snd.snd.snd.snd.fst, x.snd.snd.snd.snd.snd.snd.snd.snd.snd.snd.snd.snd.snd.snd.snd.snd.snd.snd.snd.snd.snd.snd.snd.snd.snd.snd.snd.snd.snd.snd.fst, y5.snd.snd.snd.snd.snd.snd.snd.snd.snd.snd.snd.snd.fst, y5.snd.snd.snd.snd.snd.snd.snd.snd.snd.snd.snd.snd.snd.fst, ()))
     else
      Option.bind (f38_1 y2.snd.fst y2.snd.snd.fst y2.snd.snd.snd.fst y2.snd.snd.snd.snd.fst y2.snd.snd.snd.snd.snd.fst y2.snd.snd.snd.snd.snd.snd.fst y2.snd.snd.snd.snd.snd.snd.snd.fst y2.snd.snd.snd.snd.snd.snd.snd.snd.fst y2.snd.snd.snd.snd.snd.snd.snd.snd.snd.fst y2.snd.snd.snd.snd.snd.snd.snd.snd.snd.snd.fst y2.snd.snd.snd.snd.snd.snd.snd.snd.snd.snd.snd.fst y2.snd.snd.snd.snd.snd.snd.snd.snd.snd.snd.snd.snd.fst y2.snd.snd.snd.snd.snd.snd.snd.snd.snd.snd.snd.snd.snd.fst) fun y6 =>
       bif Decidable.decide (y6.fst < x.snd.snd.snd.snd.fst) then
        some ((Bool.false, ()))
       else
        Option.bind (f39_1 y6.snd.fst y6.snd.snd.fst y6.snd.snd.snd.fst y6.snd.snd.snd.snd.fst y6.snd.snd.snd.snd.snd.fst y6.snd.snd.snd.snd.snd.snd.fst y6.snd.snd.snd.snd.snd.snd.snd.fst y6.snd.snd.snd.snd.snd.snd.snd.snd.fst y6.snd.snd.snd.snd.snd.snd.snd.snd.snd.fst y6.snd.snd.snd.snd.snd.snd.snd.snd.snd.snd.fst y6.snd.snd.snd.snd.snd.snd.snd.snd.snd.snd.snd.fst y6.snd.snd.snd.snd.snd.snd.snd.snd.snd.snd.snd.snd.fst y6.snd.snd.snd.snd.snd.snd.snd.snd.snd.snd.snd.snd.snd.fst) fun y7 =>
         bif Decidable.decide (y7.fst < x.snd.snd.snd.snd.snd.fst) then
          some ((Bool.false, ()))
         else
          bif x.snd.snd.fst then
           Option.bind (f37_1 y7.snd.fst y7.snd.snd.fst y7.snd.snd.snd.fst y7.snd.snd.snd.snd.fst y7.snd.snd.snd.snd.snd.fst y7.snd.snd.snd.snd.snd.snd.fst y7.snd.snd.snd.snd.snd.snd.snd.fst y7.snd.snd.snd.snd.snd.snd.snd.snd.fst y7.snd.snd.snd.snd.snd.snd.snd.snd.snd.fst y7.snd.snd.snd.snd.snd.snd.snd.snd.snd.snd.fst y7.snd.snd.snd.snd.snd.snd.snd.snd.snd.snd.snd.fst y7.snd.snd.snd.snd.snd.snd.snd.snd.snd.snd.snd.snd.fst y7.snd.snd.snd.snd.snd.snd.snd.snd.snd.snd.snd.snd.snd.fst) fun y8 =>
            bif y8.fst != 7 then
             some ((Bool.false, ()))
            else
             f10.L4 k0 ((x.fst, x.snd.fst, x.snd.snd.fst, x.snd.snd.snd.fst, 0, y8.snd.fst, y8.snd.snd.fst, y8.snd.snd.snd.fst, y8.snd.snd.snd.snd.fst, y8.snd.snd.snd.snd.snd.fst, y8.snd.snd.snd.snd.snd.snd.fst, y8.snd.snd.snd.snd.snd.snd.snd.fst, y8.snd.snd.snd.snd.snd.snd.snd.snd.fst, y8.snd.snd.snd.snd.snd.snd.snd.snd.snd.fst, y8.snd.snd.snd.snd.snd.snd.snd.snd.snd.snd.fst, y8.snd.snd.snd.snd.snd.snd.snd.snd.snd.snd.snd.fst, x.snd.snd.snd.snd.snd.snd.snd.snd.snd.snd.snd.snd.snd.snd.snd.snd.snd.snd.snd.snd.snd.snd.snd.snd.snd.snd.snd.fst, x.snd.snd.snd.snd.snd.snd.snd.snd.snd.snd.snd.snd.snd.snd.snd.snd.snd.snd.snd.snd.snd.snd.snd.snd.snd.snd.snd.snd.fst, x.snd.snd.snd.snd.snd.snd.snd.snd.snd.snd.snd.snd.snd.snd.snd.snd.snd.snd.snd.snd.snd.snd.snd.snd.snd.snd.snd.snd.snd.fst, x.snd.snd.snd.snd.snd.snd.snd.snd.snd.snd.snd.snd.snd.snd.snd.snd.snd.snd.snd.snd.snd.snd.snd.snd.snd.snd.snd.snd.snd.snd.fst, y8.snd.snd.snd.snd.snd.snd.snd.snd.snd.snd.snd.snd.fst, y8.snd.snd.snd.snd.snd.snd.snd.snd.snd.snd.snd.snd.snd.fst, ()))
          else
           f10.L4 k0 ((x.fst, x.snd.fst, x.snd.snd.fst, x.snd.snd.snd.fst, 0, y7.snd.fst, y7.snd.snd.fst, y7.snd.snd.snd.fst, y7.snd.snd.snd.snd.fst, y7.snd.snd.snd.snd.snd.fst, y7.snd.snd.snd.snd.snd.snd.fst, y7.snd.snd.snd.snd.snd.snd.snd.fst, y7.snd.snd.snd.snd.snd.snd.snd.snd.fst, y7.snd.snd.snd.snd.snd.snd.snd.snd.snd.fst, y7.snd.snd.snd.snd.snd.snd.snd.snd.snd.snd.fst, y7.snd.snd.snd.snd.snd.snd.snd.snd.snd.snd.snd.fst, x.snd.snd.snd.snd.snd.snd.snd.snd.snd.snd.snd.snd.snd.snd.snd.snd.snd.snd.snd.snd.snd.snd.snd.snd.snd.snd.snd.fst, x.snd.snd.snd.snd.snd.snd.snd.snd.snd.snd.snd.snd.snd.snd.snd.snd.snd.snd.snd.snd.snd.snd.snd.snd.snd.snd.snd.snd.fst, x.snd.snd.snd.snd.snd.snd.snd.snd.snd.snd.snd.snd.snd.snd.snd.snd.snd.snd.snd.snd.snd.snd.snd.snd.snd.snd.snd.snd.snd.fst, x.snd.snd.snd.snd.snd.snd.snd.snd.snd.snd.snd.snd.snd.snd.snd.snd.snd.snd.snd.snd.snd.snd.snd.snd.snd.snd.snd.snd.snd.snd.fst, y7.snd.snd.snd.snd.snd.snd.snd.snd.snd.snd.snd.snd.fst, y7.snd.snd.snd.snd.snd.snd.snd.snd.snd.snd.snd.snd.snd.fst, ()))
  else
   Option.bind (f33 x.snd.snd.snd.snd.snd.snd.snd.snd.snd.snd.snd.snd.snd.snd.snd.snd.snd.snd.snd.snd.fst 500) fun y9 =>
    Option.bind (f33 x.snd.snd.snd.snd.snd.snd.snd.snd.snd.snd.snd.snd.snd.snd.snd.snd.snd.snd.snd.snd.snd.snd.snd.fst 500) fun y10 =>
     Option.bind (f33 x.snd.snd.snd.snd.snd.snd.snd.snd.snd.snd.snd.snd.snd.snd.snd.snd.snd.snd.snd.snd.snd.snd.snd.snd.fst 500) fun y11 =>
      Option.bind (f33 x.snd.snd.snd.snd.snd.snd.snd.snd.snd.snd.snd.snd.snd.snd.snd.snd.snd.snd.snd.snd.snd.fst 500) fun y12 =>
       Option.bind (f35_1 x.snd.snd.snd.snd.snd.snd.snd.snd.snd.snd.snd.snd.snd.snd.snd.snd.snd.snd.snd.snd.snd.snd.fst y9.fst y10.fst y11.fst 0 0 y12.fst x.snd.snd.snd.snd.snd.snd.snd.fst x.snd.snd.snd.snd.snd.snd.snd.snd.fst x.snd.snd.snd.snd.snd.snd.snd.snd.snd.fst x.snd.snd.snd.snd.snd.snd.snd.snd.snd.snd.fst x.snd.snd.snd.snd.snd.snd.snd.snd.snd.snd.snd.fst x.snd.snd.snd.snd.snd.snd.snd.snd.snd.snd.snd.snd.fst x.snd.snd.snd.snd.snd.snd.snd.snd.snd.snd.snd.snd.snd.fst x.snd.snd.snd.snd.snd.snd.snd.snd.snd.snd.snd.snd.snd.snd.fst x.snd.snd.snd.snd.snd.snd.snd.snd.snd.snd.snd.snd.snd.snd.snd.fst x.snd.snd.snd.snd.snd.snd.snd.snd.snd.snd.snd.snd.snd.snd.snd.snd.fst x.snd.snd.snd.snd.snd.snd.snd.snd.snd.snd.snd.snd.snd.snd.snd.snd.snd.fst x.snd.snd.snd.snd.snd.snd.snd.snd.snd.snd.snd.snd.snd.snd.snd.snd.snd.snd.snd.snd.snd.snd.snd.snd.snd.snd.snd.snd.snd.snd.snd.fst x.snd.snd.snd.snd.snd.snd.snd.snd.snd.snd.snd.snd.snd.snd.snd.snd.snd.snd.snd.snd.snd.snd.snd.snd.snd.snd.snd.snd.snd.snd.snd.snd.fst) fun y13 =>
        Option.bind (f38_1 y13.fst y13.snd.fst y13.snd.snd.fst y13.snd.snd.snd.fst y13.snd.snd.snd.snd.fst y13.snd.snd.snd.snd.snd.fst y13.snd.snd.snd.snd.snd.snd.fst y13.snd.snd.snd.snd.snd.snd.snd.fst y13.snd.snd.snd.snd.snd.snd.snd.snd.fst y13.snd.snd.snd.snd.snd.snd.snd.snd.snd.fst y13.snd.snd.snd.snd.snd.snd.snd.snd.snd.snd.fst y13.snd.snd.snd.snd.snd.snd.snd.snd.snd.snd.snd.fst y13.snd.snd.snd.snd.snd.snd.snd.snd.snd.snd.snd.snd.fst) fun y14 =>
         bif Decidable.decide (y14.fst < x.snd.snd.snd.snd.fst) then
          some ((Bool.false, ()))
         else
          Option.bind (f39_1 y14.snd.fst y14.snd.snd.fst y14.snd.snd.snd.fst y14.snd.snd.snd.snd.fst y14.snd.snd.snd.snd.snd.fst y14.snd.snd.snd.snd.snd.snd.fst y14.snd.snd.snd.snd.snd.snd.snd.fst y14.snd.snd.snd.snd.snd.snd.snd.snd.fst y14.snd.snd.snd.snd.snd.snd.snd.snd.snd.fst y14.snd.snd.snd.snd.snd.snd.snd.snd.snd.snd.fst y14.snd.snd.snd.snd.snd.snd.snd.snd.snd.snd.snd.fst y14.snd.snd.snd.snd.snd.snd.snd.snd.snd.snd.snd.snd.fst y14.snd.snd.snd.snd.snd.snd.snd.snd.snd.snd.snd.snd.snd.fst) fun y15 =>
           bif Decidable.decide (y15.fst < x.snd.snd.snd.snd.snd.fst) then
            some ((Bool.false, ()))
           else
            bif x.snd.snd.fst then
             Option.bind (f37_1 y15.snd.fst y15.snd.snd.fst y15.snd.snd.snd.fst y15.snd.snd.snd.snd.fst y15.snd.snd.snd.snd.snd.fst y15.snd.snd.snd.snd.snd.snd.fst y15.snd.snd.snd.snd.snd.snd.snd.fst y15.snd.snd.snd.snd.snd.snd.snd.snd.fst y15.snd.snd.snd.snd.snd.snd.snd.snd.snd.fst y15.snd.snd.snd.snd.snd.snd.snd.snd.snd.snd.fst y15.snd.snd.snd.snd.snd.snd.snd.snd.snd.snd.snd.fst y15.snd.snd.snd.snd.snd.snd.snd.snd.snd.snd.snd.snd.fst y15.snd.snd.snd.snd.snd.snd.snd.snd.snd.snd.snd.snd.snd.fst) fun y16 =>
              bif y16.fst != 7 then
               some ((Bool.false, ()))
              else
               f10.L4 k0 ((x.fst, x.snd.fst, x.snd.snd.fst, x.snd.snd.snd.fst, 0, y16.snd.fst, y16.snd.snd.fst, y16.snd.snd.snd.fst, y16.snd.snd.snd.snd.fst, y16.snd.snd.snd.snd.snd.fst, y16.snd.snd.snd.snd.snd.snd.fst, y16.snd.snd.snd.snd.snd.snd.snd.fst, y16.snd.snd.snd.snd.snd.snd.snd.snd.fst, y16.snd.snd.snd.snd.snd.snd.snd.snd.snd.fst, y16.snd.snd.snd.snd.snd.snd.snd.snd.snd.snd.fst, y16.snd.snd.snd.snd.snd.snd.snd.snd.snd.snd.snd.fst, x.snd.snd.snd.snd.snd.snd.snd.snd.snd.snd.snd.snd.snd.snd.snd.snd.snd.snd.snd.snd.snd.snd.snd.snd.snd.snd.snd.fst, x.snd.snd.snd.snd.snd.snd.snd.snd.snd.snd.snd.snd.snd.snd.snd.snd.snd.snd.snd.snd.snd.snd.snd.snd.snd.snd.snd.snd.fst, x.snd.snd.snd.snd.snd.snd.snd.snd.snd.snd.snd.snd.snd.snd.snd.snd.snd.snd.snd.snd.snd.snd.snd.snd.snd.snd.snd.snd.snd.fst, x.snd.snd.snd.snd.snd.snd.snd.snd.snd.snd.snd.snd.snd.snd.snd.snd.snd.snd.snd.snd.snd.snd.snd.snd.snd.snd.snd.snd.snd.snd.fst, y16.snd.snd.snd.snd.snd.snd.snd.snd.snd.snd.snd.snd.fst, y16.snd.snd.snd.snd.snd.snd.snd.snd.snd.snd.snd.snd.snd.fst, ()))
            else
             f10.L4 k0 ((x.fst, x.snd.fst, x.snd.snd.fst, x.snd.snd.snd.fst, 0, y15.snd.fst, y15.snd.snd.fst, y15.snd.snd.snd.fst, y15.snd.snd.snd.snd.fst, y15.snd.snd.snd.snd.snd.fst, y15.snd.snd.snd.snd.snd.snd.fst, y15.snd.snd.snd.snd.snd.snd.snd.fst, y15.snd.snd.snd.snd.snd.snd.snd.snd.fst, y15.snd.snd.snd.snd.snd.snd.snd.snd.snd.fst, y15.snd.snd.snd.snd.snd.snd.snd.snd.snd.snd.fst, y15.snd.snd.snd.snd.snd.snd.snd.snd.snd.snd.snd.fst, x.snd.snd.snd.snd.snd.snd.snd.snd.snd.snd.snd.snd.snd.snd.snd.snd.snd.snd.snd.snd.snd.snd.snd.snd.snd.snd.snd.fst, x.snd.snd.snd.snd.snd.snd.snd.snd.snd.snd.snd.snd.snd.snd.snd.snd.snd.snd.snd.snd.snd.snd.snd.snd.snd.snd.snd.snd.fst, x.snd.snd.snd.snd.snd.snd.snd.snd.snd.snd.snd.snd.snd.snd.snd.snd.snd.snd.snd.snd.snd.snd.snd.snd.snd.snd.snd.snd.snd.fst, x.snd.snd.snd.snd.snd.snd.snd.snd.snd.snd.snd.snd.snd.snd.snd.snd.snd.snd.snd.snd.snd.snd.snd.snd.snd.snd.snd.snd.snd.snd.fst, y15.snd.snd.snd.snd.snd.snd.snd.snd.snd.snd.snd.snd.fst, y15.snd.snd.snd.snd.snd.snd.snd.snd.snd.snd.snd.snd.snd.fst, ()))
 ) (100000000000000000000) (x)
def f10.L6 (x : Int × List (Int × Int × Int × Int × Int × Int × Int × Int × Int) × Bool × Int × Int × Int × Bool × Int × Int × Int × Int × Int × Int × Int × Int × Int × List Bool × Unit) : Option (Bool × Unit) :=
 it (X := Int × List (Int × Int × Int × Int × Int × Int × Int × Int × Int) × Bool × Int × Int × Int × Bool × Int × Int × Int × Int × Int × Int × Int × Int × Int × List Bool × Unit) (fun rec x =>
 bif Decidable.decide (x.snd.snd.snd.fst < (↑(List.length x.snd.fst) : Int)) then
  bif Decidable.decide (x.snd.snd.snd.fst < 60) then
   bif inRange x.snd.snd.snd.fst (List.length x.snd.fst) then
    Option.bind (f38_1 x.snd.snd.snd.snd.fst x.snd.snd.snd.snd.snd.fst x.snd.snd.snd.snd.snd.snd.fst x.snd.snd.snd.snd.snd.snd.snd.fst x.snd.snd.snd.snd.snd.snd.snd.snd.fst x.snd.snd.snd.snd.snd.snd.snd.snd.snd.fst x.snd.snd.snd.snd.snd.snd.snd.snd.snd.snd.fst x.snd.snd.snd.snd.snd.snd.snd.snd.snd.snd.snd.fst x.snd.snd.snd.snd.snd.snd.snd.snd.snd.snd.snd.snd.fst x.snd.snd.snd.snd.snd.snd.snd.snd.snd.snd.snd.snd.snd.fst x.snd.snd.snd.snd.snd.snd.snd.snd.snd.snd.snd.snd.snd.snd.fst x.snd.snd.snd.snd.snd.snd.snd.snd.snd.snd.snd.snd.snd.snd.snd.fst x.snd.snd.snd.snd.snd.snd.snd.snd.snd.snd.snd.snd.snd.snd.snd.snd.fst) fun y0 =>
     Option.bind (f39_1 y0.snd.fst y0.snd.snd.fst y0.snd.snd.snd.fst y0.snd.snd.snd.snd.fst y0.snd.snd.snd.snd.snd.fst y0.snd.snd.snd.snd.snd.snd.fst y0.snd.snd.snd.snd.snd.snd.snd.fst y0.snd.snd.snd.snd.snd.snd.snd.snd.fst y0.snd.snd.snd.snd.snd.snd.snd.snd.snd.fst y0.snd.snd.snd.snd.snd.snd.snd.snd.snd.snd.fst y0.snd.snd.snd.snd.snd.snd.snd.snd.snd.snd.snd.fst y0.snd.snd.snd.snd.snd.snd.snd.snd.snd.snd.snd.snd.fst y0.snd.snd.snd.snd.snd.snd.snd.snd.snd.snd.snd.snd.snd.fst) fun y1 =>
      f10.L5 rec ((x.fst, x.snd.fst, x.snd.snd.fst, x.snd.snd.snd.fst, y0.fst, y1.fst, 0, y1.snd.fst, y1.snd.snd.fst, y1.snd.snd.snd.fst, y1.snd.snd.snd.snd.fst, y1.snd.snd.snd.snd.snd.fst, y1.snd.snd.snd.snd.snd.snd.fst, y1.snd.snd.snd.snd.snd.snd.snd.fst, y1.snd.snd.snd.snd.snd.snd.snd.snd.fst, y1.snd.snd.snd.snd.snd.snd.snd.snd.snd.fst, y1.snd.snd.snd.snd.snd.snd.snd.snd.snd.snd.fst, y1.snd.snd.snd.snd.snd.snd.snd.snd.snd.snd.snd.fst, (List.getD x.snd.fst (Int.toNat x.snd.snd.snd.fst) (0, 0, 0, 0, 0, 0, 0, 0, 0)).fst, (List.getD x.snd.fst (Int.toNat x.snd.snd.snd.fst) (0, 0, 0, 0, 0, 0, 0, 0, 0)).snd.fst, (List.getD x.snd.fst (Int.toNat x.snd.snd.snd.fst) (0, 0, 0, 0, 0, 0, 0, 0, 0)).snd.snd.fst, (List.getD x.snd.fst (Int.toNat x.snd.snd.snd.fst) (0, 0, 0, 0, 0, 0, 0, 0, 0)).snd.snd.snd.fst, (List.getD x.snd.fst (Int.toNat x.snd.snd.snd.fst) (0, 0, 0, 0, 0, 0, 0, 0, 0)).snd.snd.snd.snd.fst, (List.getD x.snd.fst (Int.toNat x.snd.snd.snd.fst) (0, 0, 0, 0, 0, 0, 0, 0, 0)).snd.snd.snd.snd.snd.fst, (List.getD x.snd.fst (Int.toNat x.snd.snd.snd.fst) (0, 0, 0, 0, 0, 0, 0, 0, 0)).snd.snd.snd.snd.snd.snd.fst, (List.getD x.snd.fst (Int.toNat x.snd.snd.snd.fst) (0, 0, 0, 0, 0, 0, 0, 0, 0)).snd.snd.snd.snd.snd.snd.snd.fst, (List.getD x.snd.fst (Int.toNat x.snd.snd.snd.fst) (0, 0, 0, 0, 0, 0, 0, 0, 0)).snd.snd.snd.snd.snd.snd.snd.snd, 0, 0, 0, 0, y1.snd.snd.snd.snd.snd.snd.snd.snd.snd.snd.snd.snd.fst, y1.snd.snd.snd.snd.snd.snd.snd.snd.snd.snd.snd.snd.snd.fst, ()))
   else
    none
  else
   some ((Bool.true, ()))
 else
  some ((Bool.true, ()))
 ) (100000000000000000000) (x)
def f10 (a0 : Int) (a1 : List (Int × Int × Int × Int × Int × Int × Int × Int × Int)) : Option (Bool × Unit) :=
 Option.bind (f32) fun y0 =>
  bif !y0.fst then
   some ((Bool.false, ()))
  else
   Option.bind (f33 a0 1000) fun y1 =>
    Option.bind (f34 3 Bool.false y1.fst 4) fun y2 =>
     Sum.elim (fun y3 =>
      bif y3.fst != 0 then
       some ((Bool.false, ()))
      else
       some ((Bool.false, ()))
     ) (fun z4 =>
      Sum.elim (fun y5 =>
       bif y5.fst != 0 then
        some ((Bool.false, ()))
       else
        f10.L3 ((y1.fst, a1, Bool.false, 0, y5.snd.fst, y5.snd.snd.fst, y5.snd.snd.snd.fst, y5.snd.snd.snd.snd.fst, y5.snd.snd.snd.snd.snd.fst, y5.snd.snd.snd.snd.snd.snd.fst, y5.snd.snd.snd.snd.snd.snd.snd.fst, y5.snd.snd.snd.snd.snd.snd.snd.snd.fst, y5.snd.snd.snd.snd.snd.snd.snd.snd.snd.fst, y5.snd.snd.snd.snd.snd.snd.snd.snd.snd.snd.fst, y5.snd.snd.snd.snd.snd.snd.snd.snd.snd.snd.snd.fst, ()))
      ) (fun z6 =>
       bif z6.fst != 0 then
        some ((Bool.false, ()))
       else
        f10.L6 ((y1.fst, a1, Bool.false, 0, z6.snd.fst, z6.snd.snd.fst, z6.snd.snd.snd.fst, z6.snd.snd.snd.snd.fst, z6.snd.snd.snd.snd.snd.fst, z6.snd.snd.snd.snd.snd.snd.fst, z6.snd.snd.snd.snd.snd.snd.snd.fst, z6.snd.snd.snd.snd.snd.snd.snd.snd.fst, z6.snd.snd.snd.snd.snd.snd.snd.snd.snd.fst, z6.snd.snd.snd.snd.snd.snd.snd.snd.snd.snd.fst, z6.snd.snd.snd.snd.snd.snd.snd.snd.snd.snd.snd.fst, z6.snd.snd.snd.snd.snd.snd.snd.snd.snd.snd.snd.snd.fst, z6.snd.snd.snd.snd.snd.snd.snd.snd.snd.snd.snd.snd.snd.fst, ()))
      ) (z4)
     ) (y2)
def f10.ins : Shape := ⟨[(0, .c (.int .i64)), (1, .c (.row (.prod (.int .i64) (.prod (.int .i64) (.prod (.int .i64) (.prod (.int .i64) (.prod (.int .u32) (.prod (.int .i64) (.prod (.int .i64) (.prod (.int .i64) (.int .i64)))))))))))], []⟩
def f10.outs : List Shape := [⟨[(0, .c (.bool))], []⟩]
def f10.S : FnSpec := ⟨f10.ins, f10.outs, [], fun x => f10 x.1 x.2.1⟩
def f10.E (fuel : Nat) : Env := ⟨tis, [(34, f34.S), (35, f35.S), (37, f37.S), (40, f40.S), (35, f35_1.S), (37, f37_1.S), (40, f40_1.S), (32, f32.S), (33, f33.S), (36, f36.S), (36, f36_1.S), (38, f38.S), (39, f39.S), (38, f38_1.S), (39, f39_1.S)], [], [], [(10, ⟨[(0, .c (.int .i64)), (1, .c (.row (.prod (.int .i64) (.prod (.int .i64) (.prod (.int .i64) (.prod (.int .i64) (.prod (.int .u32) (.prod (.int .i64) (.prod (.int .i64) (.prod (.int .i64) (.int .i64))))))))))), (5, .c (.ptr 0 0)), (7, .c (.bool)), (8, .c (.int .i64))], [(0, .box [.nilp, .int .i64, .int .i64, .bool, .int .i64, .int .i64, .int .i64, .int .i64, .int .i64, .int .i64, .int .i64, .int .i64])]⟩), (10, ⟨[(0, .c (.int .i64)), (1, .c (.row (.prod (.int .i64) (.prod (.int .i64) (.prod (.int .i64) (.prod (.int .i64) (.prod (.int .u32) (.prod (.int .i64) (.prod (.int .i64) (.prod (.int .i64) (.int .i64))))))))))), (5, .c (.ptr 0 0)), (7, .c (.bool)), (8, .c (.int .i64))], [(0, .box [.ptr 1 0, .int .i64, .int .i64, .bool, .int .i64, .int .i64, .int .i64, .int .i64, .int .i64, .int .i64, .int .i64, .int .i64]), (1, .box [.own 2, .int .i64]), (2, .arr .bool)]⟩), (16, ⟨[(0, .c (.int .i64)), (1, .c (.row (.prod (.int .i64) (.prod (.int .i64) (.prod (.int .i64) (.prod (.int .i64) (.prod (.int .u32) (.prod (.int .i64) (.prod (.int .i64) (.prod (.int .i64) (.int .i64))))))))))), (5, .c (.ptr 0 0)), (7, .c (.bool)), (8, .c (.int .i64)), (9, .c (.ptr 1 0)), (10, .c (.int .i64)), (11, .c (.int .i64)), (12, .c (.ptr 2 0)), (13, .c (.int .i64))], [(0, .box [.nilp, .int .i64, .int .i64, .bool, .int .i64, .int .i64, .int .i64, .int .i64, .int .i64, .int .i64, .int .i64, .int .i64]), (1, .box [.int .i64, .int .i64, .int .i64, .int .i64, .int .u32, .int .i64, .int .i64, .int .i64, .int .i64]), (2, .box [.int .i64, .int .i64, .int .i64, .int .i64])]⟩), (16, ⟨[(0, .c (.int .i64)), (1, .c (.row (.prod (.int .i64) (.prod (.int .i64) (.prod (.int .i64) (.prod (.int .i64) (.prod (.int .u32) (.prod (.int .i64) (.prod (.int .i64) (.prod (.int .i64) (.int .i64))))))))))), (5, .c (.ptr 0 0)), (7, .c (.bool)), (8, .c (.int .i64)), (9, .c (.ptr 1 0)), (10, .c (.int .i64)), (11, .c (.int .i64)), (12, .c (.ptr 2 0)), (13, .c (.int .i64))], [(0, .box [.ptr 3 0, .int .i64, .int .i64, .bool, .int .i64, .int .i64, .int .i64, .int .i64, .int .i64, .int .i64, .int .i64, .int .i64]), (1, .box [.int .i64, .int .i64, .int .i64, .int .i64, .int .u32, .int .i64, .int .i64, .int .i64, .int .i64]), (2, .box [.int .i64, .int .i64, .int .i64, .int .i64]), (3, .box [.own 4, .int .i64]), (4, .arr .bool)]⟩), (25, ⟨[(0, .c (.int .i64)), (1, .c (.row (.prod (.int .i64) (.prod (.int .i64) (.prod (.int .i64) (.prod (.int .i64) (.prod (.int .u32) (.prod (.int .i64) (.prod (.int .i64) (.prod (.int .i64) (.int .i64))))))))))), (5, .c (.ptr 0 0)), (7, .c (.bool)), (8, .c (.int .i64)), (12, .c (.ptr 1 0)), (14, .c (.int .i64))], [(0, .box [.nilp, .int .i64, .int .i64, .bool, .int .i64, .int .i64, .int .i64, .int .i64, .int .i64, .int .i64, .int .i64, .int .i64]), (1, .box [.int .i64, .int .i64, .int .i64, .int .i64])]⟩), (25, ⟨[(0, .c (.int .i64)), (1, .c (.row (.prod (.int .i64) (.prod (.int .i64) (.prod (.int .i64) (.prod (.int .i64) (.prod (.int .u32) (.prod (.int .i64) (.prod (.int .i64) (.prod (.int .i64) (.int .i64))))))))))), (5, .c (.ptr 0 0)), (7, .c (.bool)), (8, .c (.int .i64)), (12, .c (.ptr 1 0)), (14, .c (.int .i64))], [(0, .box [.ptr 2 0, .int .i64, .int .i64, .bool, .int .i64, .int .i64, .int .i64, .int .i64, .int .i64, .int .i64, .int .i64, .int .i64]), (1, .box [.int .i64, .int .i64, .int .i64, .int .i64]), (2, .box [.own 3, .int .i64]), (3, .arr .bool)]⟩)], [], 0, [], fuel⟩
theorem f10.run : ∀ x, runFn (f10.E 100000000000000000000) Go.Proofs.Try.f10 ((Go.Proofs.Try.f10.body).getD .skip) f10.S x = f10.S.f x := by intro x; kernel_rfl
theorem f10.sound : Sound Go.Proofs.Try.prog 10 f10.S := sound_of_run (fun _ => f10.E 100000000000000000000) (by kernel_rfl) (by kernel_rfl) (by kernel_rfl) orders (fun _ => ⟨tis_ok, EqsOk.nil _, (FnsOk.cons f34.sound (FnsOk.cons f35.sound (FnsOk.cons f37.sound (FnsOk.cons f40.sound (FnsOk.cons f35_1.sound (FnsOk.cons f37_1.sound (FnsOk.cons f40_1.sound (FnsOk.cons f32.sound (FnsOk.cons f33.sound (FnsOk.cons f36.sound (FnsOk.cons f36_1.sound (FnsOk.cons f38.sound (FnsOk.cons f39.sound (FnsOk.cons f38_1.sound (FnsOk.cons f39_1.sound FnsOk.nil)))))))))))))))⟩) (fun _ => rfl) (by kernel_rfl) (by kernel_rfl) (fun x r h => (f10.run x).trans h)
/-! f41: (*adit/remote.Remote).Sit -/
def f41 (a0 : Int) (a1 : Int) (a2 : Int) (a3 : Bool) (a4 : Int) (a5 : Int) (a6 : Int) (a7 : Int) (a8 : Int) (a9 : Int) (a10 : Int) (a11 : Int) : Option (Int × Int × Int × Bool × Int × Int × Int × Int × Int × Int × Int × Int × Unit) :=
 bif Decidable.decide (a0 < 1) then
  some ((16, a1, a2, a3, a4, a5, a6, a7, a8, a9, a10, a11, ()))
 else
  bif Decidable.decide (a0 ≥ 4) then
   some ((16, a1, a2, a3, a4, a5, a6, a7, a8, a9, a10, a11, ()))
  else
   bif a4 != 3 then
    some ((16, a1, a2, a3, a4, a5, a6, a7, a8, a9, a10, a11, ()))
   else
    some ((0, a1, a2, a3, 5, a0, a6, a7, a8, a9, a10, a11, ()))
def f41.ins : Shape := ⟨[(0, .c (.ptr 0 0)), (1, .c (.int .i64))], [(0, .box [.nilp, .int .i64, .int .i64, .bool, .int .i64, .int .i64, .int .i64, .int .i64, .int .i64, .int .i64, .int .i64, .int .i64])]⟩
def f41.outs : List Shape := [⟨[(0, .c (.int .i64))], [(0, .box [.nilp, .int .i64, .int .i64, .bool, .int .i64, .int .i64, .int .i64, .int .i64, .int .i64, .int .i64, .int .i64, .int .i64])]⟩]
def f41.S : FnSpec := ⟨f41.ins, f41.outs, [0], fun x => f41 x.1 x.2.1 x.2.2.1 x.2.2.2.1 x.2.2.2.2.1 x.2.2.2.2.2.1 x.2.2.2.2.2.2.1 x.2.2.2.2.2.2.2.1 x.2.2.2.2.2.2.2.2.1 x.2.2.2.2.2.2.2.2.2.1 x.2.2.2.2.2.2.2.2.2.2.1 x.2.2.2.2.2.2.2.2.2.2.2.1⟩
def f41.E (fuel : Nat) : Env := ⟨tis, [], [], [], [], [], 1, [0], fuel⟩
theorem f41.run : ∀ x, runFn (f41.E 100000000000000000000) Go.Proofs.Try.f41 ((Go.Proofs.Try.f41.body).getD .skip) f41.S x = f41.S.f x := by intro x; kernel_rfl
theorem f41.sound : Sound Go.Proofs.Try.prog 41 f41.S := sound_of_run (fun _ => f41.E 100000000000000000000) (by kernel_rfl) (by kernel_rfl) (by kernel_rfl) orders (fun _ => ⟨tis_ok, EqsOk.nil _, FnsOk.nil⟩) (fun _ => rfl) (by kernel_rfl) (by kernel_rfl) (fun x r h => (f41.run x).trans h)
/-! f42: (*adit/remote.Remote).Near -/
def f42 (a0 : Int) (a1 : Int) (a2 : Int) (a3 : Bool) (a4 : Int) (a5 : Int) (a6 : Int) (a7 : Int) (a8 : Int) (a9 : Int) (a10 : Int) (a11 : Int) : Option (Bool × Int × Int × Bool × Int × Int × Int × Int × Int × Int × Int × Int × Unit) :=
 bif a4 == 3 then
  bif Decidable.decide (a0 ≤ a7) then
   some ((Bool.true, a1, a2, a3, a4, a5, a6, a7, a8, a9, a10, a11, ()))
  else
   some ((Decidable.decide (Go.IntKind.wrap Go.IntKind.i64 (a0 - a7) ≤ 6), a1, a2, a3, a4, a5, a6, a7, a8, a9, a10, a11, ()))
 else
  some ((Bool.false, a1, a2, a3, a4, a5, a6, a7, a8, a9, a10, a11, ()))
def f42.ins : Shape := ⟨[(0, .c (.ptr 0 0)), (1, .c (.int .i64))], [(0, .box [.nilp, .int .i64, .int .i64, .bool, .int .i64, .int .i64, .int .i64, .int .i64, .int .i64, .int .i64, .int .i64, .int .i64])]⟩
def f42.outs : List Shape := [⟨[(0, .c (.bool))], [(0, .box [.nilp, .int .i64, .int .i64, .bool, .int .i64, .int .i64, .int .i64, .int .i64, .int .i64, .int .i64, .int .i64, .int .i64])]⟩]
def f42.S : FnSpec := ⟨f42.ins, f42.outs, [0], fun x => f42 x.1 x.2.1 x.2.2.1 x.2.2.2.1 x.2.2.2.2.1 x.2.2.2.2.2.1 x.2.2.2.2.2.2.1 x.2.2.2.2.2.2.2.1 x.2.2.2.2.2.2.2.2.1 x.2.2.2.2.2.2.2.2.2.1 x.2.2.2.2.2.2.2.2.2.2.1 x.2.2.2.2.2.2.2.2.2.2.2.1⟩
def f42.E (fuel : Nat) : Env := ⟨tis, [], [], [], [], [], 1, [0], fuel⟩
theorem f42.run : ∀ x, runFn (f42.E 100000000000000000000) Go.Proofs.Try.f42 ((Go.Proofs.Try.f42.body).getD .skip) f42.S x = f42.S.f x := by intro x; kernel_rfl
theorem f42.sound : Sound Go.Proofs.Try.prog 42 f42.S := sound_of_run (fun _ => f42.E 100000000000000000000) (by kernel_rfl) (by kernel_rfl) (by kernel_rfl) orders (fun _ => ⟨tis_ok, EqsOk.nil _, FnsOk.nil⟩) (fun _ => rfl) (by kernel_rfl) (by kernel_rfl) (fun x r h => (f42.run x).trans h)
/-! f43: (*adit/remote.Remote).Seat -/
def f43 (a0 : Int) (a1 : Int) (a2 : Bool) (a3 : Int) (a4 : Int) (a5 : Int) (a6 : Int) (a7 : Int) (a8 : Int) (a9 : Int) (a10 : Int) : Option (Int × Int × Int × Bool × Int × Int × Int × Int × Int × Int × Int × Int × Unit) :=
 some ((a4, a0, a1, a2, a3, a4, a5, a6, a7, a8, a9, a10, ()))
def f43.ins : Shape := ⟨[(0, .c (.ptr 0 0))], [(0, .box [.nilp, .int .i64, .int .i64, .bool, .int .i64, .int .i64, .int .i64, .int .i64, .int .i64, .int .i64, .int .i64, .int .i64])]⟩
def f43.outs : List Shape := [⟨[(0, .c (.int .i64))], [(0, .box [.nilp, .int .i64, .int .i64, .bool, .int .i64, .int .i64, .int .i64, .int .i64, .int .i64, .int .i64, .int .i64, .int .i64])]⟩]
def f43.S : FnSpec := ⟨f43.ins, f43.outs, [0], fun x => f43 x.1 x.2.1 x.2.2.1 x.2.2.2.1 x.2.2.2.2.1 x.2.2.2.2.2.1 x.2.2.2.2.2.2.1 x.2.2.2.2.2.2.2.1 x.2.2.2.2.2.2.2.2.1 x.2.2.2.2.2.2.2.2.2.1 x.2.2.2.2.2.2.2.2.2.2.1⟩
def f43.E (fuel : Nat) : Env := ⟨tis, [], [], [], [], [], 1, [0], fuel⟩
theorem f43.run : ∀ x, runFn (f43.E 100000000000000000000) Go.Proofs.Try.f43 ((Go.Proofs.Try.f43.body).getD .skip) f43.S x = f43.S.f x := by intro x; kernel_rfl
theorem f43.sound : Sound Go.Proofs.Try.prog 43 f43.S := sound_of_run (fun _ => f43.E 100000000000000000000) (by kernel_rfl) (by kernel_rfl) (by kernel_rfl) orders (fun _ => ⟨tis_ok, EqsOk.nil _, FnsOk.nil⟩) (fun _ => rfl) (by kernel_rfl) (by kernel_rfl) (fun x r h => (f43.run x).trans h)
/-! f44: (*adit/remote.Remote).Rise -/
def f44 (a0 : Int) (a1 : Int) (a2 : Bool) (a3 : Int) (a4 : Int) (a5 : Int) (a6 : Int) (a7 : Int) (a8 : Int) (a9 : Int) (a10 : Int) : Option (Int × Int × Bool × Int × Int × Int × Int × Int × Int × Int × Int × Unit) :=
 bif a3 == 5 then
  some ((a0, a1, a2, 4, -1, a5, a6, a7, a8, a9, a10, ()))
 else
  some ((a0, a1, a2, a3, a4, a5, a6, a7, a8, a9, a10, ()))
def f44.ins : Shape := ⟨[(0, .c (.ptr 0 0))], [(0, .box [.nilp, .int .i64, .int .i64, .bool, .int .i64, .int .i64, .int .i64, .int .i64, .int .i64, .int .i64, .int .i64, .int .i64])]⟩
def f44.outs : List Shape := [⟨[], [(0, .box [.nilp, .int .i64, .int .i64, .bool, .int .i64, .int .i64, .int .i64, .int .i64, .int .i64, .int .i64, .int .i64, .int .i64])]⟩]
def f44.S : FnSpec := ⟨f44.ins, f44.outs, [0], fun x => f44 x.1 x.2.1 x.2.2.1 x.2.2.2.1 x.2.2.2.2.1 x.2.2.2.2.2.1 x.2.2.2.2.2.2.1 x.2.2.2.2.2.2.2.1 x.2.2.2.2.2.2.2.2.1 x.2.2.2.2.2.2.2.2.2.1 x.2.2.2.2.2.2.2.2.2.2.1⟩
def f44.E (fuel : Nat) : Env := ⟨tis, [], [], [], [], [], 1, [0], fuel⟩
theorem f44.run : ∀ x, runFn (f44.E 100000000000000000000) Go.Proofs.Try.f44 ((Go.Proofs.Try.f44.body).getD .skip) f44.S x = f44.S.f x := by intro x; kernel_rfl
theorem f44.sound : Sound Go.Proofs.Try.prog 44 f44.S := sound_of_run (fun _ => f44.E 100000000000000000000) (by kernel_rfl) (by kernel_rfl) (by kernel_rfl) orders (fun _ => ⟨tis_ok, EqsOk.nil _, FnsOk.nil⟩) (fun _ => rfl) (by kernel_rfl) (by kernel_rfl) (fun x r h => (f44.run x).trans h)
/-! f41_1: (*adit/remote.Remote).Sit -/
def f41_1 (a0 : Int) (a1 : Int) (a2 : Int) (a3 : Bool) (a4 : Int) (a5 : Int) (a6 : Int) (a7 : Int) (a8 : Int) (a9 : Int) (a10 : Int) (a11 : Int) (a12 : Int) (a13 : List Bool) : Option (Int × Int × Int × Bool × Int × Int × Int × Int × Int × Int × Int × Int × Int × List Bool × Unit) :=
 bif Decidable.decide (a0 < 1) then
  some ((16, a1, a2, a3, a4, a5, a6, a7, a8, a9, a10, a11, a12, a13, ()))
 else
  bif Decidable.decide (a0 ≥ 4) then
   some ((16, a1, a2, a3, a4, a5, a6, a7, a8, a9, a10, a11, a12, a13, ()))
  else
   bif a4 != 3 then
    some ((16, a1, a2, a3, a4, a5, a6, a7, a8, a9, a10, a11, a12, a13, ()))
   else
    some ((0, a1, a2, a3, 5, a0, a6, a7, a8, a9, a10, a11, a12, a13, ()))
def f41_1.ins : Shape := ⟨[(0, .c (.ptr 0 0)), (1, .c (.int .i64))], [(0, .box [.ptr 1 0, .int .i64, .int .i64, .bool, .int .i64, .int .i64, .int .i64, .int .i64, .int .i64, .int .i64, .int .i64, .int .i64]), (1, .box [.own 2, .int .i64]), (2, .arr .bool)]⟩
def f41_1.outs : List Shape := [⟨[(0, .c (.int .i64))], [(0, .box [.ptr 1 0, .int .i64, .int .i64, .bool, .int .i64, .int .i64, .int .i64, .int .i64, .int .i64, .int .i64, .int .i64, .int .i64]), (1, .box [.own 2, .int .i64]), (2, .arr .bool)]⟩]
def f41_1.S : FnSpec := ⟨f41_1.ins, f41_1.outs, [0, 1, 2], fun x => f41_1 x.1 x.2.1 x.2.2.1 x.2.2.2.1 x.2.2.2.2.1 x.2.2.2.2.2.1 x.2.2.2.2.2.2.1 x.2.2.2.2.2.2.2.1 x.2.2.2.2.2.2.2.2.1 x.2.2.2.2.2.2.2.2.2.1 x.2.2.2.2.2.2.2.2.2.2.1 x.2.2.2.2.2.2.2.2.2.2.2.1 x.2.2.2.2.2.2.2.2.2.2.2.2.1 x.2.2.2.2.2.2.2.2.2.2.2.2.2.1⟩
def f41_1.E (fuel : Nat) : Env := ⟨tis, [], [], [], [], [], 3, [0, 1, 2], fuel⟩
theorem f41_1.run : ∀ x, runFn (f41_1.E 100000000000000000000) Go.Proofs.Try.f41 ((Go.Proofs.Try.f41.body).getD .skip) f41_1.S x = f41_1.S.f x := by intro x; kernel_rfl
theorem f41_1.sound : Sound Go.Proofs.Try.prog 41 f41_1.S := sound_of_run (fun _ => f41_1.E 100000000000000000000) (by kernel_rfl) (by kernel_rfl) (by kernel_rfl) orders (fun _ => ⟨tis_ok, EqsOk.nil _, FnsOk.nil⟩) (fun _ => rfl) (by kernel_rfl) (by kernel_rfl) (fun x r h => (f41_1.run x).trans h)
/-! f42_1: (*adit/remote.Remote).Near -/
def f42_1 (a0 : Int) (a1 : Int) (a2 : Int) (a3 : Bool) (a4 : Int) (a5 : Int) (a6 : Int) (a7 : Int) (a8 : Int) (a9 : Int) (a10 : Int) (a11 : Int) (a12 : Int) (a13 : List Bool) : Option (Bool × Int × Int × Bool × Int × Int × Int × Int × Int × Int × Int × Int × Int × List Bool × Unit) :=
 bif a4 == 3 then
  bif Decidable.decide (a0 ≤ a7) then
   some ((Bool.true, a1, a2, a3, a4, a5, a6, a7, a8, a9, a10, a11, a12, a13, ()))
  else
   some ((Decidable.decide (Go.IntKind.wrap Go.IntKind.i64 (a0 - a7) ≤ 6), a1, a2, a3, a4, a5, a6, a7, a8, a9, a10, a11, a12, a13, ()))
 else
  some ((Bool.false, a1, a2, a3, a4, a5, a6, a7, a8, a9, a10, a11, a12, a13, ()))
def f42_1.ins : Shape := ⟨[(0, .c (.ptr 0 0)), (1, .c (.int .i64))], [(0, .box [.ptr 1 0, .int .i64, .int .i64, .bool, .int .i64, .int .i64, .int .i64, .int .i64, .int .i64, .int .i64, .int .i64, .int .i64]), (1, .box [.own 2, .int .i64]), (2, .arr .bool)]⟩
def f42_1.outs : List Shape := [⟨[(0, .c (.bool))], [(0, .box [.ptr 1 0, .int .i64, .int .i64, .bool, .int .i64, .int .i64, .int .i64, .int .i64, .int .i64, .int .i64, .int .i64, .int .i64]), (1, .box [.own 2, .int .i64]), (2, .arr .bool)]⟩]
def f42_1.S : FnSpec := ⟨f42_1.ins, f42_1.outs, [0, 1, 2], fun x => f42_1 x.1 x.2.1 x.2.2.1 x.2.2.2.1 x.2.2.2.2.1 x.2.2.2.2.2.1 x.2.2.2.2.2.2.1 x.2.2.2.2.2.2.2.1 x.2.2.2.2.2.2.2.2.1 x.2.2.2.2.2.2.2.2.2.1 x.2.2.2.2.2.2.2.2.2.2.1 x.2.2.2.2.2.2.2.2.2.2.2.1 x.2.2.2.2.2.2.2.2.2.2.2.2.1 x.2.2.2.2.2.2.2.2.2.2.2.2.2.1⟩
def f42_1.E (fuel : Nat) : Env := ⟨tis, [], [], [], [], [], 3, [0, 1, 2], fuel⟩
theorem f42_1.run : ∀ x, runFn (f42_1.E 100000000000000000000) Go.Proofs.Try.f42 ((Go.Proofs.Try.f42.body).getD .skip) f42_1.S x = f42_1.S.f x := by intro x; kernel_rfl
theorem f42_1.sound : Sound Go.Proofs.Try.prog 42 f42_1.S := sound_of_run (fun _ => f42_1.E 100000000000000000000) (by kernel_rfl) (by kernel_rfl) (by kernel_rfl) orders (fun _ => ⟨tis_ok, EqsOk.nil _, FnsOk.nil⟩) (fun _ => rfl) (by kernel_rfl) (by kernel_rfl) (fun x r h => (f42_1.run x).trans h)
/-! f43_1: (*adit/remote.Remote).Seat -/
def f43_1 (a0 : Int) (a1 : Int) (a2 : Bool) (a3 : Int) (a4 : Int) (a5 : Int) (a6 : Int) (a7 : Int) (a8 : Int) (a9 : Int) (a10 : Int) (a11 : Int) (a12 : List Bool) : Option (Int × Int × Int × Bool × Int × Int × Int × Int × Int × Int × Int × Int × Int × List Bool × Unit) :=
 some ((a4, a0, a1, a2, a3, a4, a5, a6, a7, a8, a9, a10, a11, a12, ()))
def f43_1.ins : Shape := ⟨[(0, .c (.ptr 0 0))], [(0, .box [.ptr 1 0, .int .i64, .int .i64, .bool, .int .i64, .int .i64, .int .i64, .int .i64, .int .i64, .int .i64, .int .i64, .int .i64]), (1, .box [.own 2, .int .i64]), (2, .arr .bool)]⟩
def f43_1.outs : List Shape := [⟨[(0, .c (.int .i64))], [(0, .box [.ptr 1 0, .int .i64, .int .i64, .bool, .int .i64, .int .i64, .int .i64, .int .i64, .int .i64, .int .i64, .int .i64, .int .i64]), (1, .box [.own 2, .int .i64]), (2, .arr .bool)]⟩]
def f43_1.S : FnSpec := ⟨f43_1.ins, f43_1.outs, [0, 1, 2], fun x => f43_1 x.1 x.2.1 x.2.2.1 x.2.2.2.1 x.2.2.2.2.1 x.2.2.2.2.2.1 x.2.2.2.2.2.2.1 x.2.2.2.2.2.2.2.1 x.2.2.2.2.2.2.2.2.1 x.2.2.2.2.2.2.2.2.2.1 x.2.2.2.2.2.2.2.2.2.2.1 x.2.2.2.2.2.2.2.2.2.2.2.1 x.2.2.2.2.2.2.2.2.2.2.2.2.1⟩
def f43_1.E (fuel : Nat) : Env := ⟨tis, [], [], [], [], [], 3, [0, 1, 2], fuel⟩
theorem f43_1.run : ∀ x, runFn (f43_1.E 100000000000000000000) Go.Proofs.Try.f43 ((Go.Proofs.Try.f43.body).getD .skip) f43_1.S x = f43_1.S.f x := by intro x; kernel_rfl
theorem f43_1.sound : Sound Go.Proofs.Try.prog 43 f43_1.S := sound_of_run (fun _ => f43_1.E 100000000000000000000) (by kernel_rfl) (by kernel_rfl) (by kernel_rfl) orders (fun _ => ⟨tis_ok, EqsOk.nil _, FnsOk.nil⟩) (fun _ => rfl) (by kernel_rfl) (by kernel_rfl) (fun x r h => (f43_1.run x).trans h)
/-! f44_1: (*adit/remote.Remote).Rise -/
def f44_1 (a0 : Int) (a1 : Int) (a2 : Bool) (a3 : Int) (a4 : Int) (a5 : Int) (a6 : Int) (a7 : Int) (a8 : Int) (a9 : Int) (a10 : Int) (a11 : Int) (a12 : List Bool) : Option (Int × Int × Bool × Int × Int × Int × Int × Int × Int × Int × Int × Int × List Bool × Unit) :=
 bif a3 == 5 then
  some ((a0, a1, a2, 4, -1, a5, a6, a7, a8, a9, a10, a11, a12, ()))
 else
  some ((a0, a1, a2, a3, a4, a5, a6, a7, a8, a9, a10, a11, a12, ()))
def f44_1.ins : Shape := ⟨[(0, .c (.ptr 0 0))], [(0, .box [.ptr 1 0, .int .i64, .int .i64, .bool, .int .i64, .int .i64, .int .i64, .int .i64, .int .i64, .int .i64, .int .i64, .int .i64]), (1, .box [.own 2, .int .i64]), (2, .arr .bool)]⟩
def f44_1.outs : List Shape := [⟨[], [(0, .box [.ptr 1 0, .int .i64, .int .i64, .bool, .int .i64, .int .i64, .int .i64, .int .i64, .int .i64, .int .i64, .int .i64, .int .i64]), (1, .box [.own 2, .int .i64]), (2, .arr .bool)]⟩]
def f44_1.S : FnSpec := ⟨f44_1.ins, f44_1.outs, [0, 1, 2], fun x => f44_1 x.1 x.2.1 x.2.2.1 x.2.2.2.1 x.2.2.2.2.1 x.2.2.2.2.2.1 x.2.2.2.2.2.2.1 x.2.2.2.2.2.2.2.1 x.2.2.2.2.2.2.2.2.1 x.2.2.2.2.2.2.2.2.2.1 x.2.2.2.2.2.2.2.2.2.2.1 x.2.2.2.2.2.2.2.2.2.2.2.1 x.2.2.2.2.2.2.2.2.2.2.2.2.1⟩
def f44_1.E (fuel : Nat) : Env := ⟨tis, [], [], [], [], [], 3, [0, 1, 2], fuel⟩
theorem f44_1.run : ∀ x, runFn (f44_1.E 100000000000000000000) Go.Proofs.Try.f44 ((Go.Proofs.Try.f44.body).getD .skip) f44_1.S x = f44_1.S.f x := by intro x; kernel_rfl
theorem f44_1.sound : Sound Go.Proofs.Try.prog 44 f44_1.S := sound_of_run (fun _ => f44_1.E 100000000000000000000) (by kernel_rfl) (by kernel_rfl) (by kernel_rfl) orders (fun _ => ⟨tis_ok, EqsOk.nil _, FnsOk.nil⟩) (fun _ => rfl) (by kernel_rfl) (by kernel_rfl) (fun x r h => (f44_1.run x).trans h)
/-! f11: adit/aditlaw19.RemoteStages -/
def f11 (a0 : Bool) (a1 : Int) (a2 : Int) (a3 : Int) : Option (Bool × Unit) :=
 Option.bind (f32) fun y0 =>
  bif !y0.fst then
   some ((Bool.false, ()))
  else
   Option.bind (f33 a2 50) fun y1 =>
    Option.bind (f33 a3 50) fun y2 =>
     Option.bind (f34 4 a0 20 3) fun y3 =>
      Sum.elim (fun y4 =>
       bif y4.fst != 0 then
        some ((Bool.false, ()))
       else
        none
      ) (fun z5 =>
       Sum.elim (fun y6 =>
        bif y6.fst != 0 then
         some ((Bool.false, ()))
        else
         Option.bind (f37 y6.snd.fst y6.snd.snd.fst y6.snd.snd.snd.fst y6.snd.snd.snd.snd.fst y6.snd.snd.snd.snd.snd.fst y6.snd.snd.snd.snd.snd.snd.fst y6.snd.snd.snd.snd.snd.snd.snd.fst y6.snd.snd.snd.snd.snd.snd.snd.snd.fst y6.snd.snd.snd.snd.snd.snd.snd.snd.snd.fst y6.snd.snd.snd.snd.snd.snd.snd.snd.snd.snd.fst y6.snd.snd.snd.snd.snd.snd.snd.snd.snd.snd.snd.fst) fun y8 =>
          bif y8.fst != 2 then
           some ((Bool.false, ()))
          else
           Option.bind (f41 1 y8.snd.fst y8.snd.snd.fst y8.snd.snd.snd.fst y8.snd.snd.snd.snd.fst y8.snd.snd.snd.snd.snd.fst y8.snd.snd.snd.snd.snd.snd.fst y8.snd.snd.snd.snd.snd.snd.snd.fst y8.snd.snd.snd.snd.snd.snd.snd.snd.fst y8.snd.snd.snd.snd.snd.snd.snd.snd.snd.fst y8.snd.snd.snd.snd.snd.snd.snd.snd.snd.snd.fst y8.snd.snd.snd.snd.snd.snd.snd.snd.snd.snd.snd.fst) fun y9 =>
            bif y9.fst != 16 then
             some ((Bool.false, ()))
            else
             Option.bind (f42 20 y9.snd.fst y9.snd.snd.fst y9.snd.snd.snd.fst y9.snd.snd.snd.snd.fst y9.snd.snd.snd.snd.snd.fst y9.snd.snd.snd.snd.snd.snd.fst y9.snd.snd.snd.snd.snd.snd.snd.fst y9.snd.snd.snd.snd.snd.snd.snd.snd.fst y9.snd.snd.snd.snd.snd.snd.snd.snd.snd.fst y9.snd.snd.snd.snd.snd.snd.snd.snd.snd.snd.fst y9.snd.snd.snd.snd.snd.snd.snd.snd.snd.snd.snd.fst) fun y10 =>
              bif y10.fst then
               some ((Bool.false, ()))
              else
               Option.bind (f43 y10.snd.fst y10.snd.snd.fst y10.snd.snd.snd.fst y10.snd.snd.snd.snd.fst y10.snd.snd.snd.snd.snd.fst y10.snd.snd.snd.snd.snd.snd.fst y10.snd.snd.snd.snd.snd.snd.snd.fst y10.snd.snd.snd.snd.snd.snd.snd.snd.fst y10.snd.snd.snd.snd.snd.snd.snd.snd.snd.fst y10.snd.snd.snd.snd.snd.snd.snd.snd.snd.snd.fst y10.snd.snd.snd.snd.snd.snd.snd.snd.snd.snd.snd.fst) fun y11 =>
                bif y11.fst != -1 then
                 some ((Bool.false, ()))
                else
                 Option.bind (f44 y11.snd.fst y11.snd.snd.fst y11.snd.snd.snd.fst y11.snd.snd.snd.snd.fst y11.snd.snd.snd.snd.snd.fst y11.snd.snd.snd.snd.snd.snd.fst y11.snd.snd.snd.snd.snd.snd.snd.fst y11.snd.snd.snd.snd.snd.snd.snd.snd.fst y11.snd.snd.snd.snd.snd.snd.snd.snd.snd.fst y11.snd.snd.snd.snd.snd.snd.snd.snd.snd.snd.fst y11.snd.snd.snd.snd.snd.snd.snd.snd.snd.snd.snd.fst) fun y12 =>
                  Option.bind (f35 3 0 0 0 0 0 0 y12.fst y12.snd.fst y12.snd.snd.fst y12.snd.snd.snd.fst y12.snd.snd.snd.snd.fst y12.snd.snd.snd.snd.snd.fst y12.snd.snd.snd.snd.snd.snd.fst y12.snd.snd.snd.snd.snd.snd.snd.fst y12.snd.snd.snd.snd.snd.snd.snd.snd.fst y12.snd.snd.snd.snd.snd.snd.snd.snd.snd.fst y12.snd.snd.snd.snd.snd.snd.snd.snd.snd.snd.fst) fun y13 =>
                   Option.bind (f37 y13.fst y13.snd.fst y13.snd.snd.fst y13.snd.snd.snd.fst y13.snd.snd.snd.snd.fst y13.snd.snd.snd.snd.snd.fst y13.snd.snd.snd.snd.snd.snd.fst y13.snd.snd.snd.snd.snd.snd.snd.fst y13.snd.snd.snd.snd.snd.snd.snd.snd.fst y13.snd.snd.snd.snd.snd.snd.snd.snd.snd.fst y13.snd.snd.snd.snd.snd.snd.snd.snd.snd.snd.fst) fun y14 =>
                    bif y14.fst != 2 then
                     some ((Bool.false, ()))
                    else
                     Option.bind (f45 y14.snd.fst y14.snd.snd.fst y14.snd.snd.snd.fst y14.snd.snd.snd.snd.fst y14.snd.snd.snd.snd.snd.fst y14.snd.snd.snd.snd.snd.snd.fst y14.snd.snd.snd.snd.snd.snd.snd.fst y14.snd.snd.snd.snd.snd.snd.snd.snd.fst y14.snd.snd.snd.snd.snd.snd.snd.snd.snd.fst y14.snd.snd.snd.snd.snd.snd.snd.snd.snd.snd.fst y14.snd.snd.snd.snd.snd.snd.snd.snd.snd.snd.snd.fst) fun y15 =>
                      some ((Bool.false, ()))
       ) (fun z7 =>
        bif z7.fst != 0 then
         some ((Bool.false, ()))
        else
         Option.bind (f37_1 z7.snd.fst z7.snd.snd.fst z7.snd.snd.snd.fst z7.snd.snd.snd.snd.fst z7.snd.snd.snd.snd.snd.fst z7.snd.snd.snd.snd.snd.snd.fst z7.snd.snd.snd.snd.snd.snd.snd.fst z7.snd.snd.snd.snd.snd.snd.snd.snd.fst z7.snd.snd.snd.snd.snd.snd.snd.snd.snd.fst z7.snd.snd.snd.snd.snd.snd.snd.snd.snd.snd.fst z7.snd.snd.snd.snd.snd.snd.snd.snd.snd.snd.snd.fst z7.snd.snd.snd.snd.snd.snd.snd.snd.snd.snd.snd.snd.fst z7.snd.snd.snd.snd.snd.snd.snd.snd.snd.snd.snd.snd.snd.fst) fun y16 =>
          bif y16.fst != 2 then
           some ((Bool.false, ()))
          else
           Option.bind (f41_1 1 y16.snd.fst y16.snd.snd.fst y16.snd.snd.snd.fst y16.snd.snd.snd.snd.fst y16.snd.snd.snd.snd.snd.fst y16.snd.snd.snd.snd.snd.snd.fst y16.snd.snd.snd.snd.snd.snd.snd.fst y16.snd.snd.snd.snd.snd.snd.snd.snd.fst y16.snd.snd.snd.snd.snd.snd.snd.snd.snd.fst y16.snd.snd.snd.snd.snd.snd.snd.snd.snd.snd.fst y16.snd.snd.snd.snd.snd.snd.snd.snd.snd.snd.snd.fst y16.snd.snd.snd.snd.snd.snd.snd.snd.snd.snd.snd.snd.fst y16.snd.snd.snd.snd.snd.snd.snd.snd.snd.snd.snd.snd.snd.fst) fun y17 =>
            bif y17.fst != 16 then
             some ((Bool.false, ()))
            else
             Option.bind (f42_1 20 y17.snd.fst y17.snd.snd.fst y17.snd.snd.snd.fst y17.snd.snd.snd.snd.fst y17.snd.snd.snd.snd.snd.fst y17.snd.snd.snd.snd.snd.snd.fst y17.snd.snd.snd.snd.snd.snd.snd.fst y17.snd.snd.snd.snd.snd.snd.snd.snd.fst y17.snd.snd.snd.snd.snd.snd.snd.snd.snd.fst y17.snd.snd.snd.snd.snd.snd.snd.snd.snd.snd.fst y17.snd.snd.snd.snd.snd.snd.snd.snd.snd.snd.snd.fst y17.snd.snd.snd.snd.snd.snd.snd.snd.snd.snd.snd.snd.fst y17.snd.snd.snd.snd.snd.snd.snd.snd.snd.snd.snd.snd.snd.fst) fun y18 =>
              bif y18.fst then
               some ((Bool.false, ()))
              else
               Option.bind (f43_1 y18.snd.fst y18.snd.snd.fst y18.snd.snd.snd.fst y18.snd.snd.snd.snd.fst y18.snd.snd.snd.snd.snd.fst y18.snd.snd.snd.snd.snd.snd.fst y18.snd.snd.snd.snd.snd.snd.snd.fst y18.snd.snd.snd.snd.snd.snd.snd.snd.fst y18.snd.snd.snd.snd.snd.snd.snd.snd.snd.fst y18.snd.snd.snd.snd.snd.snd.snd.snd.snd.snd.fst y18.snd.snd.snd.snd.snd.snd.snd.snd.snd.snd.snd.fst y18.snd.snd.snd.snd.snd.snd.snd.snd.snd.snd.snd.snd.fst y18.snd.snd.snd.snd.snd.snd.snd.snd.snd.snd.snd.snd.snd.fst) fun y19 =>
                bif y19.fst != -1 then
                 some ((Bool.false, ()))
                else
                 Option.bind (f44_1 y19.snd.fst y19.snd.snd.fst y19.snd.snd.snd.fst y19.snd.snd.snd.snd.fst y19.snd.snd.snd.snd.snd.fst y19.snd.snd.snd.snd.snd.snd.fst y19.snd.snd.snd.snd.snd.snd.snd.fst y19.snd.snd.snd.snd.snd.snd.snd.snd.fst y19.snd.snd.snd.snd.snd.snd.snd.snd.snd.fst y19.snd.snd.snd.snd.snd.snd.snd.snd.snd.snd.fst y19.snd.snd.snd.snd.snd.snd.snd.snd.snd.snd.snd.fst y19.snd.snd.snd.snd.snd.snd.snd.snd.snd.snd.snd.snd.fst y19.snd.snd.snd.snd.snd.snd.snd.snd.snd.snd.snd.snd.snd.fst) fun y20 =>
                  Option.bind (f35_1 3 0 0 0 0 0 0 y20.fst y20.snd.fst y20.snd.snd.fst y20.snd.snd.snd.fst y20.snd.snd.snd.snd.fst y20.snd.snd.snd.snd.snd.fst y20.snd.snd.snd.snd.snd.snd.fst y20.snd.snd.snd.snd.snd.snd.snd.fst y20.snd.snd.snd.snd.snd.snd.snd.snd.fst y20.snd.snd.snd.snd.snd.snd.snd.snd.snd.fst y20.snd.snd.snd.snd.snd.snd.snd.snd.snd.snd.fst y20.snd.snd.snd.snd.snd.snd.snd.snd.snd.snd.snd.fst y20.snd.snd.snd.snd.snd.snd.snd.snd.snd.snd.snd.snd.fst) fun y21 =>
                   Option.bind (f37_1 y21.fst y21.snd.fst y21.snd.snd.fst y21.snd.snd.snd.fst y21.snd.snd.snd.snd.fst y21.snd.snd.snd.snd.snd.fst y21.snd.snd.snd.snd.snd.snd.fst y21.snd.snd.snd.snd.snd.snd.snd.fst y21.snd.snd.snd.snd.snd.snd.snd.snd.fst y21.snd.snd.snd.snd.snd.snd.snd.snd.snd.fst y21.snd.snd.snd.snd.snd.snd.snd.snd.snd.snd.fst y21.snd.snd.snd.snd.snd.snd.snd.snd.snd.snd.snd.fst y21.snd.snd.snd.snd.snd.snd.snd.snd.snd.snd.snd.snd.fst) fun y22 =>
                    bif y22.fst != 2 then
                     some ((Bool.false, ()))
                    else
                     Option.bind (f45_1 y22.snd.fst y22.snd.snd.fst y22.snd.snd.snd.fst y22.snd.snd.snd.snd.fst y22.snd.snd.snd.snd.snd.fst y22.snd.snd.snd.snd.snd.snd.fst y22.snd.snd.snd.snd.snd.snd.snd.fst y22.snd.snd.snd.snd.snd.snd.snd.snd.fst y22.snd.snd.snd.snd.snd.snd.snd.snd.snd.fst y22.snd.snd.snd.snd.snd.snd.snd.snd.snd.snd.fst y22.snd.snd.snd.snd.snd.snd.snd.snd.snd.snd.snd.fst y22.snd.snd.snd.snd.snd.snd.snd.snd.snd.snd.snd.snd.fst y22.snd.snd.snd.snd.snd.snd.snd.snd.snd.snd.snd.snd.snd.fst) fun y23 =>
                      bif (↑(List.length y23.snd.snd.snd.snd.snd.snd.snd.snd.snd.snd.snd.snd.snd.fst) : Int) != 1 then
                       some ((Bool.false, ()))
                      else
                       Option.bind (f35_1 4 2 0 0 0 0 (Go.IntKind.wrap Go.IntKind.i64 (20 + y2.fst)) y23.fst y23.snd.fst y23.snd.snd.fst y23.snd.snd.snd.fst y23.snd.snd.snd.snd.fst y23.snd.snd.snd.snd.snd.fst y23.snd.snd.snd.snd.snd.snd.fst y23.snd.snd.snd.snd.snd.snd.snd.fst y23.snd.snd.snd.snd.snd.snd.snd.snd.fst y23.snd.snd.snd.snd.snd.snd.snd.snd.snd.fst y23.snd.snd.snd.snd.snd.snd.snd.snd.snd.snd.fst y23.snd.snd.snd.snd.snd.snd.snd.snd.snd.snd.snd.fst y23.snd.snd.snd.snd.snd.snd.snd.snd.snd.snd.snd.snd.fst) fun y24 =>
                        Option.bind (f45_1 y24.fst y24.snd.fst y24.snd.snd.fst y24.snd.snd.snd.fst y24.snd.snd.snd.snd.fst y24.snd.snd.snd.snd.snd.fst y24.snd.snd.snd.snd.snd.snd.fst y24.snd.snd.snd.snd.snd.snd.snd.fst y24.snd.snd.snd.snd.snd.snd.snd.snd.fst y24.snd.snd.snd.snd.snd.snd.snd.snd.snd.fst y24.snd.snd.snd.snd.snd.snd.snd.snd.snd.snd.fst y24.snd.snd.snd.snd.snd.snd.snd.snd.snd.snd.snd.fst y24.snd.snd.snd.snd.snd.snd.snd.snd.snd.snd.snd.snd.fst) fun y25 =>
                         bif (↑(List.length y25.snd.snd.snd.snd.snd.snd.snd.snd.snd.snd.snd.snd.snd.fst) : Int) != 0 then
                          some ((Bool.false, ()))
                         else
                          Option.bind (f38_1 y25.fst y25.snd.fst y25.snd.snd.fst y25.snd.snd.snd.fst y25.snd.snd.snd.snd.fst y25.snd.snd.snd.snd.snd.fst y25.snd.snd.snd.snd.snd.snd.fst y25.snd.snd.snd.snd.snd.snd.snd.fst y25.snd.snd.snd.snd.snd.snd.snd.snd.fst y25.snd.snd.snd.snd.snd.snd.snd.snd.snd.fst y25.snd.snd.snd.snd.snd.snd.snd.snd.snd.snd.fst y25.snd.snd.snd.snd.snd.snd.snd.snd.snd.snd.snd.fst y25.snd.snd.snd.snd.snd.snd.snd.snd.snd.snd.snd.snd.fst) fun y26 =>
                           bif y26.fst != 2 then
                            some ((Bool.false, ()))
                           else
                            Option.bind (f39_1 y26.snd.fst y26.snd.snd.fst y26.snd.snd.snd.fst y26.snd.snd.snd.snd.fst y26.snd.snd.snd.snd.snd.fst y26.snd.snd.snd.snd.snd.snd.fst y26.snd.snd.snd.snd.snd.snd.snd.fst y26.snd.snd.snd.snd.snd.snd.snd.snd.fst y26.snd.snd.snd.snd.snd.snd.snd.snd.snd.fst y26.snd.snd.snd.snd.snd.snd.snd.snd.snd.snd.fst y26.snd.snd.snd.snd.snd.snd.snd.snd.snd.snd.snd.fst y26.snd.snd.snd.snd.snd.snd.snd.snd.snd.snd.snd.snd.fst y26.snd.snd.snd.snd.snd.snd.snd.snd.snd.snd.snd.snd.snd.fst) fun y27 =>
                             bif y27.fst != Go.IntKind.wrap Go.IntKind.i64 (20 + y2.fst) then
                              some ((Bool.false, ()))
                             else
                              bif a0 then
                               Option.bind (f37_1 y27.snd.fst y27.snd.snd.fst y27.snd.snd.snd.fst y27.snd.snd.snd.snd.fst y27.snd.snd.snd.snd.snd.fst y27.snd.snd.snd.snd.snd.snd.fst y27.snd.snd.snd.snd.snd.snd.snd.fst y27.snd.snd.snd.snd.snd.snd.snd.snd.fst y27.snd.snd.snd.snd.snd.snd.snd.snd.snd.fst y27.snd.snd.snd.snd.snd.snd.snd.snd.snd.snd.fst y27.snd.snd.snd.snd.snd.snd.snd.snd.snd.snd.snd.fst y27.snd.snd.snd.snd.snd.snd.snd.snd.snd.snd.snd.snd.fst y27.snd.snd.snd.snd.snd.snd.snd.snd.snd.snd.snd.snd.snd.fst) fun y28 =>
                                bif y28.fst == 4 then
                                 Option.bind (f42_1 (Go.IntKind.wrap Go.IntKind.i64 (20 + y1.fst)) y28.snd.fst y28.snd.snd.fst y28.snd.snd.snd.fst y28.snd.snd.snd.snd.fst y28.snd.snd.snd.snd.snd.fst y28.snd.snd.snd.snd.snd.snd.fst y28.snd.snd.snd.snd.snd.snd.snd.fst y28.snd.snd.snd.snd.snd.snd.snd.snd.fst y28.snd.snd.snd.snd.snd.snd.snd.snd.snd.fst y28.snd.snd.snd.snd.snd.snd.snd.snd.snd.snd.fst y28.snd.snd.snd.snd.snd.snd.snd.snd.snd.snd.snd.fst y28.snd.snd.snd.snd.snd.snd.snd.snd.snd.snd.snd.snd.fst y28.snd.snd.snd.snd.snd.snd.snd.snd.snd.snd.snd.snd.snd.fst) fun y29 =>
                                  bif !y29.fst then
                                   Option.bind (f41_1 1 y29.snd.fst y29.snd.snd.fst y29.snd.snd.snd.fst y29.snd.snd.snd.snd.fst y29.snd.snd.snd.snd.snd.fst y29.snd.snd.snd.snd.snd.snd.fst y29.snd.snd.snd.snd.snd.snd.snd.fst y29.snd.snd.snd.snd.snd.snd.snd.snd.fst y29.snd.snd.snd.snd.snd.snd.snd.snd.snd.fst y29.snd.snd.snd.snd.snd.snd.snd.snd.snd.snd.fst y29.snd.snd.snd.snd.snd.snd.snd.snd.snd.snd.snd.fst y29.snd.snd.snd.snd.snd.snd.snd.snd.snd.snd.snd.snd.fst y29.snd.snd.snd.snd.snd.snd.snd.snd.snd.snd.snd.snd.snd.fst) fun y30 =>
                                    some ((y30.fst == 16, ()))
                                  else
                                   some ((Bool.false, ()))
                                else
                                 some ((Bool.false, ()))
                              else
                               Option.bind (f37_1 y27.snd.fst y27.snd.snd.fst y27.snd.snd.snd.fst y27.snd.snd.snd.snd.fst y27.snd.snd.snd.snd.snd.fst y27.snd.snd.snd.snd.snd.snd.fst y27.snd.snd.snd.snd.snd.snd.snd.fst y27.snd.snd.snd.snd.snd.snd.snd.snd.fst y27.snd.snd.snd.snd.snd.snd.snd.snd.snd.fst y27.snd.snd.snd.snd.snd.snd.snd.snd.snd.snd.fst y27.snd.snd.snd.snd.snd.snd.snd.snd.snd.snd.snd.fst y27.snd.snd.snd.snd.snd.snd.snd.snd.snd.snd.snd.snd.fst y27.snd.snd.snd.snd.snd.snd.snd.snd.snd.snd.snd.snd.snd.fst) fun y31 =>
                                bif y31.fst != 3 then
                                 some ((Bool.false, ()))
                                else
                                 Option.bind (f42_1 (Go.IntKind.wrap Go.IntKind.i64 (20 + y1.fst)) y31.snd.fst y31.snd.snd.fst y31.snd.snd.snd.fst y31.snd.snd.snd.snd.fst y31.snd.snd.snd.snd.snd.fst y31.snd.snd.snd.snd.snd.snd.fst y31.snd.snd.snd.snd.snd.snd.snd.fst y31.snd.snd.snd.snd.snd.snd.snd.snd.fst y31.snd.snd.snd.snd.snd.snd.snd.snd.snd.fst y31.snd.snd.snd.snd.snd.snd.snd.snd.snd.snd.fst y31.snd.snd.snd.snd.snd.snd.snd.snd.snd.snd.snd.fst y31.snd.snd.snd.snd.snd.snd.snd.snd.snd.snd.snd.snd.fst y31.snd.snd.snd.snd.snd.snd.snd.snd.snd.snd.snd.snd.snd.fst) fun y32 =>
                                  bif !y32.fst == Decidable.decide (Go.IntKind.wrap Go.IntKind.i64 (20 + y2.fst) ≥ Go.IntKind.wrap Go.IntKind.i64 (Go.IntKind.wrap Go.IntKind.i64 (20 + y1.fst) - 6)) then
                                   some ((Bool.false, ()))
                                  else
                                   Option.bind (f41_1 0 y32.snd.fst y32.snd.snd.fst y32.snd.snd.snd.fst y32.snd.snd.snd.snd.fst y32.snd.snd.snd.snd.snd.fst y32.snd.snd.snd.snd.snd.snd.fst y32.snd.snd.snd.snd.snd.snd.snd.fst y32.snd.snd.snd.snd.snd.snd.snd.snd.fst y32.snd.snd.snd.snd.snd.snd.snd.snd.snd.fst y32.snd.snd.snd.snd.snd.snd.snd.snd.snd.snd.fst y32.snd.snd.snd.snd.snd.snd.snd.snd.snd.snd.snd.fst y32.snd.snd.snd.snd.snd.snd.snd.snd.snd.snd.snd.snd.fst y32.snd.snd.snd.snd.snd.snd.snd.snd.snd.snd.snd.snd.snd.fst) fun y33 =>
                                    bif y33.fst != 16 then
                                     some ((Bool.false, ()))
                                    else
                                     Option.bind (f41_1 4 y33.snd.fst y33.snd.snd.fst y33.snd.snd.snd.fst y33.snd.snd.snd.snd.fst y33.snd.snd.snd.snd.snd.fst y33.snd.snd.snd.snd.snd.snd.fst y33.snd.snd.snd.snd.snd.snd.snd.fst y33.snd.snd.snd.snd.snd.snd.snd.snd.fst y33.snd.snd.snd.snd.snd.snd.snd.snd.snd.fst y33.snd.snd.snd.snd.snd.snd.snd.snd.snd.snd.fst y33.snd.snd.snd.snd.snd.snd.snd.snd.snd.snd.snd.fst y33.snd.snd.snd.snd.snd.snd.snd.snd.snd.snd.snd.snd.fst y33.snd.snd.snd.snd.snd.snd.snd.snd.snd.snd.snd.snd.snd.fst) fun y34 =>
                                      bif y34.fst != 16 then
                                       some ((Bool.false, ()))
                                      else
                                       Option.bind (f33 a1 3) fun y35 =>
                                        Option.bind (f41_1 (Go.IntKind.wrap Go.IntKind.i64 (1 + y35.fst)) y34.snd.fst y34.snd.snd.fst y34.snd.snd.snd.fst y34.snd.snd.snd.snd.fst y34.snd.snd.snd.snd.snd.fst y34.snd.snd.snd.snd.snd.snd.fst y34.snd.snd.snd.snd.snd.snd.snd.fst y34.snd.snd.snd.snd.snd.snd.snd.snd.fst y34.snd.snd.snd.snd.snd.snd.snd.snd.snd.fst y34.snd.snd.snd.snd.snd.snd.snd.snd.snd.snd.fst y34.snd.snd.snd.snd.snd.snd.snd.snd.snd.snd.snd.fst y34.snd.snd.snd.snd.snd.snd.snd.snd.snd.snd.snd.snd.fst y34.snd.snd.snd.snd.snd.snd.snd.snd.snd.snd.snd.snd.snd.fst) fun y36 =>
                                         bif y36.fst != 0 then
                                          some ((Bool.false, ()))
                                         else
                                          Option.bind (f37_1 y36.snd.fst y36.snd.snd.fst y36.snd.snd.snd.fst y36.snd.snd.snd.snd.fst y36.snd.snd.snd.snd.snd.fst y36.snd.snd.snd.snd.snd.snd.fst y36.snd.snd.snd.snd.snd.snd.snd.fst y36.snd.snd.snd.snd.snd.snd.snd.snd.fst y36.snd.snd.snd.snd.snd.snd.snd.snd.snd.fst y36.snd.snd.snd.snd.snd.snd.snd.snd.snd.snd.fst y36.snd.snd.snd.snd.snd.snd.snd.snd.snd.snd.snd.fst y36.snd.snd.snd.snd.snd.snd.snd.snd.snd.snd.snd.snd.fst y36.snd.snd.snd.snd.snd.snd.snd.snd.snd.snd.snd.snd.snd.fst) fun y37 =>
                                           bif y37.fst != 5 then
                                            some ((Bool.false, ()))
                                           else
                                            Option.bind (f43_1 y37.snd.fst y37.snd.snd.fst y37.snd.snd.snd.fst y37.snd.snd.snd.snd.fst y37.snd.snd.snd.snd.snd.fst y37.snd.snd.snd.snd.snd.snd.fst y37.snd.snd.snd.snd.snd.snd.snd.fst y37.snd.snd.snd.snd.snd.snd.snd.snd.fst y37.snd.snd.snd.snd.snd.snd.snd.snd.snd.fst y37.snd.snd.snd.snd.snd.snd.snd.snd.snd.snd.fst y37.snd.snd.snd.snd.snd.snd.snd.snd.snd.snd.snd.fst y37.snd.snd.snd.snd.snd.snd.snd.snd.snd.snd.snd.snd.fst y37.snd.snd.snd.snd.snd.snd.snd.snd.snd.snd.snd.snd.snd.fst) fun y38 =>
                                             bif y38.fst != Go.IntKind.wrap Go.IntKind.i64 (1 + y35.fst) then
                                              some ((Bool.false, ()))
                                             else
                                              Option.bind (f41_1 (Go.IntKind.wrap Go.IntKind.i64 (1 + y35.fst)) y38.snd.fst y38.snd.snd.fst y38.snd.snd.snd.fst y38.snd.snd.snd.snd.fst y38.snd.snd.snd.snd.snd.fst y38.snd.snd.snd.snd.snd.snd.fst y38.snd.snd.snd.snd.snd.snd.snd.fst y38.snd.snd.snd.snd.snd.snd.snd.snd.fst y38.snd.snd.snd.snd.snd.snd.snd.snd.snd.fst y38.snd.snd.snd.snd.snd.snd.snd.snd.snd.snd.fst y38.snd.snd.snd.snd.snd.snd.snd.snd.snd.snd.snd.fst y38.snd.snd.snd.snd.snd.snd.snd.snd.snd.snd.snd.snd.fst y38.snd.snd.snd.snd.snd.snd.snd.snd.snd.snd.snd.snd.snd.fst) fun y39 =>
                                               bif y39.fst != 16 then
                                                some ((Bool.false, ()))
                                               else
                                                Option.bind (f36_1 100000 y39.snd.fst y39.snd.snd.fst y39.snd.snd.snd.fst y39.snd.snd.snd.snd.fst y39.snd.snd.snd.snd.snd.fst y39.snd.snd.snd.snd.snd.snd.fst y39.snd.snd.snd.snd.snd.snd.snd.fst y39.snd.snd.snd.snd.snd.snd.snd.snd.fst y39.snd.snd.snd.snd.snd.snd.snd.snd.snd.fst y39.snd.snd.snd.snd.snd.snd.snd.snd.snd.snd.fst y39.snd.snd.snd.snd.snd.snd.snd.snd.snd.snd.snd.fst y39.snd.snd.snd.snd.snd.snd.snd.snd.snd.snd.snd.snd.fst y39.snd.snd.snd.snd.snd.snd.snd.snd.snd.snd.snd.snd.snd.fst) fun y40 =>
                                                 bif y40.fst then
                                                  some ((Bool.false, ()))
                                                 else
                                                  Option.bind (f44_1 y40.snd.fst y40.snd.snd.fst y40.snd.snd.snd.fst y40.snd.snd.snd.snd.fst y40.snd.snd.snd.snd.snd.fst y40.snd.snd.snd.snd.snd.snd.fst y40.snd.snd.snd.snd.snd.snd.snd.fst y40.snd.snd.snd.snd.snd.snd.snd.snd.fst y40.snd.snd.snd.snd.snd.snd.snd.snd.snd.fst y40.snd.snd.snd.snd.snd.snd.snd.snd.snd.snd.fst y40.snd.snd.snd.snd.snd.snd.snd.snd.snd.snd.snd.fst y40.snd.snd.snd.snd.snd.snd.snd.snd.snd.snd.snd.snd.fst y40.snd.snd.snd.snd.snd.snd.snd.snd.snd.snd.snd.snd.snd.fst) fun y41 =>
                                                   Option.bind (f37_1 y41.fst y41.snd.fst y41.snd.snd.fst y41.snd.snd.snd.fst y41.snd.snd.snd.snd.fst y41.snd.snd.snd.snd.snd.fst y41.snd.snd.snd.snd.snd.snd.fst y41.snd.snd.snd.snd.snd.snd.snd.fst y41.snd.snd.snd.snd.snd.snd.snd.snd.fst y41.snd.snd.snd.snd.snd.snd.snd.snd.snd.fst y41.snd.snd.snd.snd.snd.snd.snd.snd.snd.snd.fst y41.snd.snd.snd.snd.snd.snd.snd.snd.snd.snd.snd.fst y41.snd.snd.snd.snd.snd.snd.snd.snd.snd.snd.snd.snd.fst) fun y42 =>
                                                    bif y42.fst == 4 then
                                                     Option.bind (f43_1 y42.snd.fst y42.snd.snd.fst y42.snd.snd.snd.fst y42.snd.snd.snd.snd.fst y42.snd.snd.snd.snd.snd.fst y42.snd.snd.snd.snd.snd.snd.fst y42.snd.snd.snd.snd.snd.snd.snd.fst y42.snd.snd.snd.snd.snd.snd.snd.snd.fst y42.snd.snd.snd.snd.snd.snd.snd.snd.snd.fst y42.snd.snd.snd.snd.snd.snd.snd.snd.snd.snd.fst y42.snd.snd.snd.snd.snd.snd.snd.snd.snd.snd.snd.fst y42.snd.snd.snd.snd.snd.snd.snd.snd.snd.snd.snd.snd.fst y42.snd.snd.snd.snd.snd.snd.snd.snd.snd.snd.snd.snd.snd.fst) fun y43 =>
                                                      bif y43.fst == -1 then
                                                       Option.bind (f36_1 (Go.IntKind.wrap Go.IntKind.i64 (Go.IntKind.wrap Go.IntKind.i64 (Go.IntKind.wrap Go.IntKind.i64 (20 + y2.fst) + 80) + 1)) y43.snd.fst y43.snd.snd.fst y43.snd.snd.snd.fst y43.snd.snd.snd.snd.fst y43.snd.snd.snd.snd.snd.fst y43.snd.snd.snd.snd.snd.snd.fst y43.snd.snd.snd.snd.snd.snd.snd.fst y43.snd.snd.snd.snd.snd.snd.snd.snd.fst y43.snd.snd.snd.snd.snd.snd.snd.snd.snd.fst y43.snd.snd.snd.snd.snd.snd.snd.snd.snd.snd.fst y43.snd.snd.snd.snd.snd.snd.snd.snd.snd.snd.snd.fst y43.snd.snd.snd.snd.snd.snd.snd.snd.snd.snd.snd.snd.fst y43.snd.snd.snd.snd.snd.snd.snd.snd.snd.snd.snd.snd.snd.fst) fun y44 =>
                                                        bif y44.fst then
                                                         Option.bind (f37_1 y44.snd.fst y44.snd.snd.fst y44.snd.snd.snd.fst y44.snd.snd.snd.snd.fst y44.snd.snd.snd.snd.snd.fst y44.snd.snd.snd.snd.snd.snd.fst y44.snd.snd.snd.snd.snd.snd.snd.fst y44.snd.snd.snd.snd.snd.snd.snd.snd.fst y44.snd.snd.snd.snd.snd.snd.snd.snd.snd.fst y44.snd.snd.snd.snd.snd.snd.snd.snd.snd.snd.fst y44.snd.snd.snd.snd.snd.snd.snd.snd.snd.snd.snd.fst y44.snd.snd.snd.snd.snd.snd.snd.snd.snd.snd.snd.snd.fst y44.snd.snd.snd.snd.snd.snd.snd.snd.snd.snd.snd.snd.snd.fst) fun y45 =>
                                                          some ((y45.fst == 7, ()))
                                                        else
                                                         some ((Bool.false, ()))
                                                      else
                                                       some ((Bool.false, ()))
                                                    else
                                                     some ((Bool.false, ()))
       ) (z5)
      ) (y3)
def f11.ins : Shape := ⟨[(0, .c (.bool)), (1, .c (.int .i64)), (2, .c (.int .i64)), (3, .c (.int .i64))], []⟩
def f11.outs : List Shape := [⟨[(0, .c (.bool))], []⟩]
def f11.S : FnSpec := ⟨f11.ins, f11.outs, [], fun x => f11 x.1 x.2.1 x.2.2.1 x.2.2.2.1⟩
def f11.E (fuel : Nat) : Env := ⟨tis, [(34, f34.S), (45, f45.S), (35, f35.S), (37, f37.S), (45, f45_1.S), (35, f35_1.S), (37, f37_1.S), (32, f32.S), (33, f33.S), (36, f36.S), (36, f36_1.S), (38, f38.S), (39, f39.S), (38, f38_1.S), (39, f39_1.S), (41, f41.S), (42, f42.S), (43, f43.S), (44, f44.S), (41, f41_1.S), (42, f42_1.S), (43, f43_1.S), (44, f44_1.S)], [], [], [], [], 0, [], fuel⟩
theorem f11.run : ∀ x, runFn (f11.E 100000000000000000000) Go.Proofs.Try.f11 ((Go.Proofs.Try.f11.body).getD .skip) f11.S x = f11.S.f x := by intro x; kernel_rfl
theorem f11.sound : Sound Go.Proofs.Try.prog 11 f11.S := sound_of_run (fun _ => f11.E 100000000000000000000) (by kernel_rfl) (by kernel_rfl) (by kernel_rfl) orders (fun _ => ⟨tis_ok, EqsOk.nil _, (FnsOk.cons f34.sound (FnsOk.cons f45.sound (FnsOk.cons f35.sound (FnsOk.cons f37.sound (FnsOk.cons f45_1.sound (FnsOk.cons f35_1.sound (FnsOk.cons f37_1.sound (FnsOk.cons f32.sound (FnsOk.cons f33.sound (FnsOk.cons f36.sound (FnsOk.cons f36_1.sound (FnsOk.cons f38.sound (FnsOk.cons f39.sound (FnsOk.cons f38_1.sound (FnsOk.cons f39_1.sound (FnsOk.cons f41.sound (FnsOk.cons f42.sound (FnsOk.cons f43.sound (FnsOk.cons f44.sound (FnsOk.cons f41_1.sound (FnsOk.cons f42_1.sound (FnsOk.cons f43_1.sound (FnsOk.cons f44_1.sound FnsOk.nil)))))))))))))))))))))))⟩) (fun _ => rfl) (by kernel_rfl) (by kernel_rfl) (fun x r h => (f11.run x).trans h)
end
end Go.Proofs.Ytfcfafacjeknaaa.Run

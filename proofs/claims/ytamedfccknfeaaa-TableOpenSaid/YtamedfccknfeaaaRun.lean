/- Functions of the program as Lean functions: printed by a tool of this session (own work). -/
import Derived.Test.YtamedfccknfeaaaProg
import Derived.Test.YtamedfccknfeaaaMxW
namespace Go.Proofs.Ytamedfccknfeaaa.Run
open Go Go.Proofs.Ytamedfccknfeaaa.Mx
set_option autoImplicit false
set_option linter.unusedVariables false
set_option maxRecDepth 100000
noncomputable section
def ty3 : TI := ⟨.int .i64, 1, 8, [.int .i64 0], some (.int .i64)⟩
def ty4 : TI := ⟨.bool, 1, 1, [.bool false], some .bool⟩
def ty22 : TI := ⟨.slice 3, 1, 24, [.nils], some (.row (.int .i64))⟩
def ty25 : TI := ⟨.ptr 60, 1, 8, [.nilp], none⟩
def ty39 : TI := ⟨.slice 43, 1, 24, [.nils], some (.row (.prod (.int .i64) (.prod (.int .i64) (.prod (.int .i64) (.prod (.int .i64) (.prod (.int .i64) (.prod (.int .i64) (.prod (.int .i64) (.prod (.int .i64) (.prod (.int .i64) (.prod (.int .i64) (.int .i64))))))))))))⟩
def ty43 : TI := ⟨.struct [(0, 3), (1, 3), (2, 3), (3, 3), (4, 3), (5, 3), (6, 3), (7, 3), (8, 3), (9, 3), (10, 3)], 11, 88, [.int .i64 0, .int .i64 0, .int .i64 0, .int .i64 0, .int .i64 0, .int .i64 0, .int .i64 0, .int .i64 0, .int .i64 0, .int .i64 0, .int .i64 0], some (.prod (.int .i64) (.prod (.int .i64) (.prod (.int .i64) (.prod (.int .i64) (.prod (.int .i64) (.prod (.int .i64) (.prod (.int .i64) (.prod (.int .i64) (.prod (.int .i64) (.prod (.int .i64) (.int .i64)))))))))))⟩
def ty49 : TI := ⟨.slice 67, 1, 24, [.nils], some (.row (.prod (.int .i64) (.prod (.int .i64) (.prod (.int .i64) (.int .i64)))))⟩
def ty53 : TI := ⟨.struct [(0, 3), (1, 3), (2, 3), (3, 3), (4, 3)], 5, 40, [.int .i64 0, .int .i64 0, .int .i64 0, .int .i64 0, .int .i64 0], some (.prod (.int .i64) (.prod (.int .i64) (.prod (.int .i64) (.prod (.int .i64) (.int .i64)))))⟩
def ty60 : TI := ⟨.struct [(0, 3), (1, 22)], 2, 32, [.int .i64 0, .nils], some (.prod (.int .i64) (.row (.int .i64)))⟩
def ty67 : TI := ⟨.struct [(0, 3), (1, 3), (2, 3), (3, 3)], 4, 32, [.int .i64 0, .int .i64 0, .int .i64 0, .int .i64 0], some (.prod (.int .i64) (.prod (.int .i64) (.prod (.int .i64) (.int .i64))))⟩
def tis : List (Nat × TI) := [(3, ty3), (4, ty4), (22, ty22), (25, ty25), (39, ty39), (43, ty43), (49, ty49), (53, ty53), (60, ty60), (67, ty67)]
theorem ty3_ok : TIok Go.Proofs.Try.prog 3 ty3 := ⟨by kernel_rfl, by kernel_rfl, by kernel_rfl, by kernel_rfl, by kernel_rfl, by kernel_rfl, by kernel_rfl, by kernel_rfl⟩
theorem ty4_ok : TIok Go.Proofs.Try.prog 4 ty4 := ⟨by kernel_rfl, by kernel_rfl, by kernel_rfl, by kernel_rfl, by kernel_rfl, by kernel_rfl, by kernel_rfl, by kernel_rfl⟩
theorem ty22_ok : TIok Go.Proofs.Try.prog 22 ty22 := ⟨by kernel_rfl, by kernel_rfl, by kernel_rfl, by kernel_rfl, by kernel_rfl, by kernel_rfl, by kernel_rfl, by kernel_rfl⟩
theorem ty25_ok : TIok Go.Proofs.Try.prog 25 ty25 := ⟨by kernel_rfl, by kernel_rfl, by kernel_rfl, by kernel_rfl, by kernel_rfl, by kernel_rfl, by kernel_rfl, by kernel_rfl⟩
theorem ty39_ok : TIok Go.Proofs.Try.prog 39 ty39 := ⟨by kernel_rfl, by kernel_rfl, by kernel_rfl, by kernel_rfl, by kernel_rfl, by kernel_rfl, by kernel_rfl, by kernel_rfl⟩
theorem ty43_ok : TIok Go.Proofs.Try.prog 43 ty43 := ⟨by kernel_rfl, by kernel_rfl, by kernel_rfl, by kernel_rfl, by kernel_rfl, by kernel_rfl, by kernel_rfl, by kernel_rfl⟩
theorem ty49_ok : TIok Go.Proofs.Try.prog 49 ty49 := ⟨by kernel_rfl, by kernel_rfl, by kernel_rfl, by kernel_rfl, by kernel_rfl, by kernel_rfl, by kernel_rfl, by kernel_rfl⟩
theorem ty53_ok : TIok Go.Proofs.Try.prog 53 ty53 := ⟨by kernel_rfl, by kernel_rfl, by kernel_rfl, by kernel_rfl, by kernel_rfl, by kernel_rfl, by kernel_rfl, by kernel_rfl⟩
theorem ty60_ok : TIok Go.Proofs.Try.prog 60 ty60 := ⟨by kernel_rfl, by kernel_rfl, by kernel_rfl, by kernel_rfl, by kernel_rfl, by kernel_rfl, by kernel_rfl, by kernel_rfl⟩
theorem ty67_ok : TIok Go.Proofs.Try.prog 67 ty67 := ⟨by kernel_rfl, by kernel_rfl, by kernel_rfl, by kernel_rfl, by kernel_rfl, by kernel_rfl, by kernel_rfl, by kernel_rfl⟩
theorem tis_ok : TIs Go.Proofs.Try.prog tis := (TIs.cons ty3_ok (TIs.cons ty4_ok (TIs.cons ty22_ok (TIs.cons ty25_ok (TIs.cons ty39_ok (TIs.cons ty43_ok (TIs.cons ty49_ok (TIs.cons ty53_ok (TIs.cons ty60_ok (TIs.cons ty67_ok (TIs.nil _)))))))))))
theorem orders : Go.Proofs.Try.prog.follows .mixedOrders = true := by kernel_rfl
/-! f12: adit/rings.New -/
def f12 (a0 : Int) : Option (Int × Unit) :=
 some ((maxI a0 0, ()))
def f12.ins : Shape := ⟨[(0, .c (.int .i64))], []⟩
def f12.outs : List Shape := [⟨[(0, .c (.ptr 0 0))], [(0, .box [.int .i64, .nils])]⟩]
def f12.S : FnSpec := ⟨f12.ins, f12.outs, [], fun x => f12 x.1⟩
def f12.E (fuel : Nat) : Env := ⟨tis, [], [], [], [], [], 0, [], fuel⟩
theorem f12.run : ∀ x, runFn (f12.E 100000000000000000000) Go.Proofs.Try.f12 ((Go.Proofs.Try.f12.body).getD .skip) f12.S x = f12.S.f x := by intro x; kernel_rfl
theorem f12.sound : Sound Go.Proofs.Try.prog 12 f12.S := sound_of_run (fun _ => f12.E 100000000000000000000) (by kernel_rfl) (by kernel_rfl) (by kernel_rfl) orders (fun _ => ⟨tis_ok, EqsOk.nil _, FnsOk.nil⟩) (fun _ => rfl) (by kernel_rfl) (by kernel_rfl) (fun x r h => (f12.run x).trans h)
/-! f15: (*adit/rings.Ring).Known -/
def f15 (a0 : Int × List Int) : Option (Int × Unit) :=
 some ((Go.IntKind.wrap Go.IntKind.i64 (a0.fst + (↑(List.length a0.snd) : Int)), ()))
def f15.ins : Shape := ⟨[(0, .c (.bptr (.prod (.int .i64) (.row (.int .i64)))))], []⟩
def f15.outs : List Shape := [⟨[(0, .c (.int .i64))], []⟩]
def f15.S : FnSpec := ⟨f15.ins, f15.outs, [], fun x => f15 x.1⟩
def f15.E (fuel : Nat) : Env := ⟨tis, [], [], [], [], [], 0, [], fuel⟩
theorem f15.run : ∀ x, runFn (f15.E 100000000000000000000) Go.Proofs.Try.f15 ((Go.Proofs.Try.f15.body).getD .skip) f15.S x = f15.S.f x := by intro x; kernel_rfl
theorem f15.sound : Sound Go.Proofs.Try.prog 15 f15.S := sound_of_run (fun _ => f15.E 100000000000000000000) (by kernel_rfl) (by kernel_rfl) (by kernel_rfl) orders (fun _ => ⟨tis_ok, EqsOk.nil _, FnsOk.nil⟩) (fun _ => rfl) (by kernel_rfl) (by kernel_rfl) (fun x r h => (f15.run x).trans h)
/-! f13: (*adit/rings.Ring).Put -/
def f13 (a0 : Int) (a1 : List Int) (a2 : Int) : Option (Int × Int × Int × List Int × Unit) :=
 Option.bind (f15 (a2, [])) fun y0 =>
  bif Decidable.decide (a0 > Go.IntKind.wrap Go.IntKind.i64 (y0.fst + 1)) then
   some ((0, 20, a2, [], ()))
  else
   bif Decidable.decide (a0 < 1) then
    some ((0, 1, a2, [], ()))
   else
    Option.bind (f15 (a2, [])) fun y1 =>
     bif Decidable.decide (0 ≤ minI (Go.IntKind.wrap Go.IntKind.i64 (Go.IntKind.wrap Go.IntKind.i64 (y1.fst + 1) - a0)) (↑(List.length a1) : Int) ∧ minI (Go.IntKind.wrap Go.IntKind.i64 (Go.IntKind.wrap Go.IntKind.i64 (y1.fst + 1) - a0)) (↑(List.length a1) : Int) ≤ (↑(List.length a1) : Int) ∧ (↑(List.length a1) : Int) ≤ (↑(List.length a1) : Int)) then
      it (X := List Int × List Int × Int × Int × Int × List Int × Unit) (fun rec2 x3 =>
       bif Decidable.decide (x3.snd.snd.snd.fst < x3.snd.snd.fst) then
        bif inRange x3.snd.snd.snd.fst (List.length x3.snd.fst) then
         Option.bind (α := List Int × Int × List Int × Int × Int × Int × List Int × Unit ⊕ Int × Int × Int × List Int × Unit) (
          bif Decidable.decide (List.getD x3.snd.fst (Int.toNat x3.snd.snd.snd.fst) 0 < 0) then
           some (Sum.inl (x3.fst, 0, x3.snd.fst, x3.snd.snd.fst, x3.snd.snd.snd.fst, x3.snd.snd.snd.snd.fst, x3.snd.snd.snd.snd.snd.fst, ()))
          else
           bif Decidable.decide (List.getD x3.snd.fst (Int.toNat x3.snd.snd.snd.fst) 0 > 10) then
            some (Sum.inl (x3.fst, 0, x3.snd.fst, x3.snd.snd.fst, x3.snd.snd.snd.fst, x3.snd.snd.snd.snd.fst, x3.snd.snd.snd.snd.snd.fst, ()))
           else
            some (Sum.inl (x3.fst, List.getD x3.snd.fst (Int.toNat x3.snd.snd.snd.fst) 0, x3.snd.fst, x3.snd.snd.fst, x3.snd.snd.snd.fst, x3.snd.snd.snd.snd.fst, x3.snd.snd.snd.snd.snd.fst, ()))
         ) fun y4 =>
          Sum.elim (fun y5 =>
           bif Decidable.decide (List.length y5.snd.snd.snd.snd.snd.snd.fst + List.length [y5.snd.fst] ≤ limit 8) then
            rec2 (y5.fst, y5.snd.snd.fst, y5.snd.snd.snd.fst, Go.IntKind.wrap Go.IntKind.i64 (y5.snd.snd.snd.snd.fst + 1), y5.snd.snd.snd.snd.snd.fst, y5.snd.snd.snd.snd.snd.snd.fst ++ [y5.snd.fst], ())
           else
            none
          ) (fun z6 =>
           some (z6)
          ) (y4)
        else
         none
       else
        some (((↑(List.length x3.fst) : Int), 0, x3.snd.snd.snd.snd.fst, x3.snd.snd.snd.snd.snd.fst, ()))
      ) (100000000000000000000) ((List.drop (Int.toNat (minI (Go.IntKind.wrap Go.IntKind.i64 (Go.IntKind.wrap Go.IntKind.i64 (y1.fst + 1) - a0)) (↑(List.length a1) : Int))) (List.take (List.length a1) a1), List.drop (Int.toNat (minI (Go.IntKind.wrap Go.IntKind.i64 (Go.IntKind.wrap Go.IntKind.i64 (y1.fst + 1) - a0)) (↑(List.length a1) : Int))) (List.take (List.length a1) a1), (↑(List.length (List.drop (Int.toNat (minI (Go.IntKind.wrap Go.IntKind.i64 (Go.IntKind.wrap Go.IntKind.i64 (y1.fst + 1) - a0)) (↑(List.length a1) : Int))) (List.take (List.length a1) a1))) : Int), 0, a2, [], ()))
     else
      none
def f13.ins : Shape := ⟨[(0, .c (.ptr 0 0)), (1, .c (.int .i64)), (2, .c (.row (.int .i64)))], [(0, .box [.int .i64, .nils])]⟩
def f13.outs : List Shape := [⟨[(0, .c (.int .i64)), (1, .c (.int .i64))], [(0, .box [.int .i64, .own 1]), (1, .arr (.int .i64))]⟩]
def f13.S : FnSpec := ⟨f13.ins, f13.outs, [0], fun x => f13 x.1 x.2.1 x.2.2.1⟩
def f13.E (fuel : Nat) : Env := ⟨tis, [(15, f15.S)], [], [(12, ⟨[(0, .c (.ptr 0 0)), (2, .c (.row (.int .i64))), (9, .c (.int .i64)), (29, .c (.row (.int .i64))), (30, .c (.int .i64)), (31, .c (.int .i64))], [(0, .box [.int .i64, .own 1]), (1, .arr (.int .i64))]⟩)], [(8, ⟨[(0, .c (.ptr 0 0)), (2, .c (.row (.int .i64))), (29, .c (.row (.int .i64))), (30, .c (.int .i64)), (31, .c (.int .i64))], [(0, .box [.int .i64, .own 1]), (1, .arr (.int .i64))]⟩)], [], 1, [0], fuel⟩
theorem f13.run : ∀ x, runFn (f13.E 100000000000000000000) Go.Proofs.Try.f13 ((Go.Proofs.Try.f13.body).getD .skip) f13.S x = f13.S.f x := by intro x; kernel_rfl
theorem f13.sound : Sound Go.Proofs.Try.prog 13 f13.S := sound_of_run (fun _ => f13.E 100000000000000000000) (by kernel_rfl) (by kernel_rfl) (by kernel_rfl) orders (fun _ => ⟨tis_ok, EqsOk.nil _, (FnsOk.cons f15.sound FnsOk.nil)⟩) (fun _ => rfl) (by kernel_rfl) (by kernel_rfl) (fun x r h => (f13.run x).trans h)
/-! f13_1: (*adit/rings.Ring).Put -/
def f13_1 (a0 : Int) (a1 : List Int) (a2 : Int) (a3 : List Int) : Option (Int × Int × Int × List Int × Unit) :=
 Option.bind (f15 (a2, a3)) fun y0 =>
  bif Decidable.decide (a0 > Go.IntKind.wrap Go.IntKind.i64 (y0.fst + 1)) then
   some ((0, 20, a2, a3, ()))
  else
   bif Decidable.decide (a0 < 1) then
    some ((0, 1, a2, a3, ()))
   else
    Option.bind (f15 (a2, a3)) fun y1 =>
     bif Decidable.decide (0 ≤ minI (Go.IntKind.wrap Go.IntKind.i64 (Go.IntKind.wrap Go.IntKind.i64 (y1.fst + 1) - a0)) (↑(List.length a1) : Int) ∧ minI (Go.IntKind.wrap Go.IntKind.i64 (Go.IntKind.wrap Go.IntKind.i64 (y1.fst + 1) - a0)) (↑(List.length a1) : Int) ≤ (↑(List.length a1) : Int) ∧ (↑(List.length a1) : Int) ≤ (↑(List.length a1) : Int)) then
      it (X := List Int × List Int × Int × Int × Int × List Int × Unit) (fun rec2 x3 =>
       bif Decidable.decide (x3.snd.snd.snd.fst < x3.snd.snd.fst) then
        bif inRange x3.snd.snd.snd.fst (List.length x3.snd.fst) then
         Option.bind (α := List Int × Int × List Int × Int × Int × Int × List Int × Unit ⊕ Int × Int × Int × List Int × Unit) (
          bif Decidable.decide (List.getD x3.snd.fst (Int.toNat x3.snd.snd.snd.fst) 0 < 0) then
           some (Sum.inl (x3.fst, 0, x3.snd.fst, x3.snd.snd.fst, x3.snd.snd.snd.fst, x3.snd.snd.snd.snd.fst, x3.snd.snd.snd.snd.snd.fst, ()))
          else
           bif Decidable.decide (List.getD x3.snd.fst (Int.toNat x3.snd.snd.snd.fst) 0 > 10) then
            some (Sum.inl (x3.fst, 0, x3.snd.fst, x3.snd.snd.fst, x3.snd.snd.snd.fst, x3.snd.snd.snd.snd.fst, x3.snd.snd.snd.snd.snd.fst, ()))
           else
            some (Sum.inl (x3.fst, List.getD x3.snd.fst (Int.toNat x3.snd.snd.snd.fst) 0, x3.snd.fst, x3.snd.snd.fst, x3.snd.snd.snd.fst, x3.snd.snd.snd.snd.fst, x3.snd.snd.snd.snd.snd.fst, ()))
         ) fun y4 =>
          Sum.elim (fun y5 =>
           bif Decidable.decide (List.length y5.snd.snd.snd.snd.snd.snd.fst + List.length [y5.snd.fst] ≤ limit 8) then
            rec2 (y5.fst, y5.snd.snd.fst, y5.snd.snd.snd.fst, Go.IntKind.wrap Go.IntKind.i64 (y5.snd.snd.snd.snd.fst + 1), y5.snd.snd.snd.snd.snd.fst, y5.snd.snd.snd.snd.snd.snd.fst ++ [y5.snd.fst], ())
           else
            none
          ) (fun z6 =>
           some (z6)
          ) (y4)
        else
         none
       else
        some (((↑(List.length x3.fst) : Int), 0, x3.snd.snd.snd.snd.fst, x3.snd.snd.snd.snd.snd.fst, ()))
      ) (100000000000000000000) ((List.drop (Int.toNat (minI (Go.IntKind.wrap Go.IntKind.i64 (Go.IntKind.wrap Go.IntKind.i64 (y1.fst + 1) - a0)) (↑(List.length a1) : Int))) (List.take (List.length a1) a1), List.drop (Int.toNat (minI (Go.IntKind.wrap Go.IntKind.i64 (Go.IntKind.wrap Go.IntKind.i64 (y1.fst + 1) - a0)) (↑(List.length a1) : Int))) (List.take (List.length a1) a1), (↑(List.length (List.drop (Int.toNat (minI (Go.IntKind.wrap Go.IntKind.i64 (Go.IntKind.wrap Go.IntKind.i64 (y1.fst + 1) - a0)) (↑(List.length a1) : Int))) (List.take (List.length a1) a1))) : Int), 0, a2, a3, ()))
     else
      none
def f13_1.ins : Shape := ⟨[(0, .c (.ptr 0 0)), (1, .c (.int .i64)), (2, .c (.row (.int .i64)))], [(0, .box [.int .i64, .own 1]), (1, .arr (.int .i64))]⟩
def f13_1.outs : List Shape := [⟨[(0, .c (.int .i64)), (1, .c (.int .i64))], [(0, .box [.int .i64, .own 2]), (2, .arr (.int .i64))]⟩]
def f13_1.S : FnSpec := ⟨f13_1.ins, f13_1.outs, [0], fun x => f13_1 x.1 x.2.1 x.2.2.1 x.2.2.2.1⟩
def f13_1.E (fuel : Nat) : Env := ⟨tis, [(15, f15.S)], [], [(12, ⟨[(0, .c (.ptr 0 0)), (2, .c (.row (.int .i64))), (9, .c (.int .i64)), (29, .c (.row (.int .i64))), (30, .c (.int .i64)), (31, .c (.int .i64))], [(0, .box [.int .i64, .own 2]), (2, .arr (.int .i64))]⟩)], [(8, ⟨[(0, .c (.ptr 0 0)), (2, .c (.row (.int .i64))), (29, .c (.row (.int .i64))), (30, .c (.int .i64)), (31, .c (.int .i64))], [(0, .box [.int .i64, .own 2]), (2, .arr (.int .i64))]⟩)], [], 2, [0], fuel⟩
theorem f13_1.run : ∀ x, runFn (f13_1.E 100000000000000000000) Go.Proofs.Try.f13 ((Go.Proofs.Try.f13.body).getD .skip) f13_1.S x = f13_1.S.f x := by intro x; kernel_rfl
theorem f13_1.sound : Sound Go.Proofs.Try.prog 13 f13_1.S := sound_of_run (fun _ => f13_1.E 100000000000000000000) (by kernel_rfl) (by kernel_rfl) (by kernel_rfl) orders (fun _ => ⟨tis_ok, EqsOk.nil _, (FnsOk.cons f15.sound FnsOk.nil)⟩) (fun _ => rfl) (by kernel_rfl) (by kernel_rfl) (fun x r h => (f13_1.run x).trans h)
/-! f14: (*adit/rings.Ring).Get -/
def f14 (a0 : Int × List Int) (a1 : Int) : Option (Int × Bool × Unit) :=
 Option.bind (α := Unit ⊕ Int × Bool × Unit) (
  bif Decidable.decide (a1 ≤ a0.fst) then
   some (Sum.inr (0, Bool.false, ()))
  else
   Option.bind (f15 a0) fun y3 =>
    bif Decidable.decide (a1 ≤ y3.fst) then
     bif inRange (Go.IntKind.wrap Go.IntKind.i64 (Go.IntKind.wrap Go.IntKind.i64 (a1 - a0.fst) - 1)) (List.length a0.snd) then
      some (Sum.inr (List.getD a0.snd (Int.toNat (Go.IntKind.wrap Go.IntKind.i64 (Go.IntKind.wrap Go.IntKind.i64 (a1 - a0.fst) - 1))) 0, Bool.true, ()))
     else
      none
    else
     bif Decidable.decide ((↑(List.length a0.snd) : Int) > 0) then
      bif inRange (Go.IntKind.wrap Go.IntKind.i64 ((↑(List.length a0.snd) : Int) - 1)) (List.length a0.snd) then
       bif Decidable.decide (List.getD a0.snd (Int.toNat (Go.IntKind.wrap Go.IntKind.i64 ((↑(List.length a0.snd) : Int) - 1))) 0 ≥ 1) then
        bif inRange (Go.IntKind.wrap Go.IntKind.i64 ((↑(List.length a0.snd) : Int) - 1)) (List.length a0.snd) then
         bif Decidable.decide (List.getD a0.snd (Int.toNat (Go.IntKind.wrap Go.IntKind.i64 ((↑(List.length a0.snd) : Int) - 1))) 0 ≤ 4) then
          bif inRange (Go.IntKind.wrap Go.IntKind.i64 ((↑(List.length a0.snd) : Int) - 1)) (List.length a0.snd) then
           some (Sum.inr (List.getD a0.snd (Int.toNat (Go.IntKind.wrap Go.IntKind.i64 ((↑(List.length a0.snd) : Int) - 1))) 0, Bool.false, ()))
          else
           none
         else
          some (Sum.inl ())
        else
         none
       else
        some (Sum.inl ())
      else
       none
     else
      some (Sum.inl ())
 ) fun y0 =>
  Sum.elim (fun y1 =>
   some ((0, Bool.false, ()))
  ) (fun z2 =>
   some (z2)
  ) (y0)
def f14.ins : Shape := ⟨[(0, .c (.bptr (.prod (.int .i64) (.row (.int .i64))))), (1, .c (.int .i64))], []⟩
def f14.outs : List Shape := [⟨[(0, .c (.int .i64)), (1, .c (.bool))], []⟩]
def f14.S : FnSpec := ⟨f14.ins, f14.outs, [], fun x => f14 x.1 x.2.1⟩
def f14.E (fuel : Nat) : Env := ⟨tis, [(15, f15.S)], [], [(9, ⟨[], []⟩)], [], [], 0, [], fuel⟩
theorem f14.run : ∀ x, runFn (f14.E 100000000000000000000) Go.Proofs.Try.f14 ((Go.Proofs.Try.f14.body).getD .skip) f14.S x = f14.S.f x := by intro x; kernel_rfl
theorem f14.sound : Sound Go.Proofs.Try.prog 14 f14.S := sound_of_run (fun _ => f14.E 100000000000000000000) (by kernel_rfl) (by kernel_rfl) (by kernel_rfl) orders (fun _ => ⟨tis_ok, EqsOk.nil _, (FnsOk.cons f15.sound FnsOk.nil)⟩) (fun _ => rfl) (by kernel_rfl) (by kernel_rfl) (fun x r h => (f14.run x).trans h)
/-! f10: adit/aditlaw17.known -/
def f10 : Option (Bool × Unit) :=
 Option.bind (f12 4) fun y0 =>
  Option.bind (f13 5 [1, 2] y0.fst) fun y1 =>
   Option.bind (f13_1 6 [9, 3] y1.snd.snd.fst y1.snd.snd.snd.fst) fun y2 =>
    Option.bind (f14 (y2.snd.snd.fst, y2.snd.snd.snd.fst) 8) fun y3 =>
     bif y2.fst == 1 then
      bif y2.snd.fst == 0 then
       Option.bind (f15 (y2.snd.snd.fst, y2.snd.snd.snd.fst)) fun y4 =>
        bif y4.fst == 7 then
         bif y3.fst == 3 then
          some ((!y3.snd.fst, ()))
         else
          some ((Bool.false, ()))
        else
         some ((Bool.false, ()))
      else
       some ((Bool.false, ()))
     else
      some ((Bool.false, ()))
def f10.ins : Shape := ⟨[], []⟩
def f10.outs : List Shape := [⟨[(0, .c (.bool))], []⟩]
def f10.S : FnSpec := ⟨f10.ins, f10.outs, [], fun _ => f10⟩
def f10.E (fuel : Nat) : Env := ⟨tis, [(12, f12.S), (15, f15.S), (13, f13.S), (13, f13_1.S), (14, f14.S)], [], [], [], [], 0, [], fuel⟩
theorem f10.run : ∀ x, runFn (f10.E 100000000000000000000) Go.Proofs.Try.f10 ((Go.Proofs.Try.f10.body).getD .skip) f10.S x = f10.S.f x := by intro x; kernel_rfl
theorem f10.sound : Sound Go.Proofs.Try.prog 10 f10.S := sound_of_run (fun _ => f10.E 100000000000000000000) (by kernel_rfl) (by kernel_rfl) (by kernel_rfl) orders (fun _ => ⟨tis_ok, EqsOk.nil _, (FnsOk.cons f12.sound (FnsOk.cons f15.sound (FnsOk.cons f13.sound (FnsOk.cons f13_1.sound (FnsOk.cons f14.sound FnsOk.nil)))))⟩) (fun _ => rfl) (by kernel_rfl) (by kernel_rfl) (fun x r h => (f10.run x).trans h)
/-! f11: adit/aditlaw17.within -/
def f11 (a0 : Int) (a1 : Int) : Option (Int × Unit) :=
 bif Decidable.decide (a1 = 0) then
  none
 else
  Option.bind (α := Int × Unit ⊕ Int × Unit) (
   bif Decidable.decide (Int.tmod a0 a1 < 0) then
    some (Sum.inl (Go.IntKind.wrap Go.IntKind.i64 (Int.tmod a0 a1 + a1), ()))
   else
    some (Sum.inl (Int.tmod a0 a1, ()))
  ) fun y0 =>
   Sum.elim (fun y1 =>
    some ((y1.fst, ()))
   ) (fun z2 =>
    some (z2)
   ) (y0)
def f11.ins : Shape := ⟨[(0, .c (.int .i64)), (1, .c (.int .i64))], []⟩
def f11.outs : List Shape := [⟨[(0, .c (.int .i64))], []⟩]
def f11.S : FnSpec := ⟨f11.ins, f11.outs, [], fun x => f11 x.1 x.2.1⟩
def f11.E (fuel : Nat) : Env := ⟨tis, [], [], [(5, ⟨[(5, .c (.int .i64))], []⟩)], [], [], 0, [], fuel⟩
theorem f11.run : ∀ x, runFn (f11.E 100000000000000000000) Go.Proofs.Try.f11 ((Go.Proofs.Try.f11.body).getD .skip) f11.S x = f11.S.f x := by intro x; kernel_rfl
theorem f11.sound : Sound Go.Proofs.Try.prog 11 f11.S := sound_of_run (fun _ => f11.E 100000000000000000000) (by kernel_rfl) (by kernel_rfl) (by kernel_rfl) orders (fun _ => ⟨tis_ok, EqsOk.nil _, FnsOk.nil⟩) (fun _ => rfl) (by kernel_rfl) (by kernel_rfl) (fun x r h => (f11.run x).trans h)
/-! f3: adit/aditlaw17.RingsGuess -/
def f3 (a0 : Int) (a1 : List Int) (a2 : Int) : Option (Bool × Unit) :=
 Option.bind (f10) fun y0 =>
  bif !y0.fst then
   some ((Bool.false, ()))
  else
   bif Decidable.decide ((↑(List.length a1) : Int) > 50) then
    some ((Bool.true, ()))
   else
    Option.bind (f11 a0 1000) fun y1 =>
     Option.bind (f12 y1.fst) fun y2 =>
      Option.bind (f13 (Go.IntKind.wrap Go.IntKind.i64 (y1.fst + 1)) a1 y2.fst) fun y3 =>
       Option.bind (α := Int × List Int × Int × Int × Int × List Int × Unit ⊕ Bool × Unit) (
        bif Decidable.decide ((↑(List.length a1) : Int) > 0) then
         bif inRange (Go.IntKind.wrap Go.IntKind.i64 ((↑(List.length a1) : Int) - 1)) (List.length a1) then
          bif Decidable.decide (List.getD a1 (Int.toNat (Go.IntKind.wrap Go.IntKind.i64 ((↑(List.length a1) : Int) - 1))) 0 ≥ 1) then
           bif inRange (Go.IntKind.wrap Go.IntKind.i64 ((↑(List.length a1) : Int) - 1)) (List.length a1) then
            bif Decidable.decide (List.getD a1 (Int.toNat (Go.IntKind.wrap Go.IntKind.i64 ((↑(List.length a1) : Int) - 1))) 0 ≤ 4) then
             bif inRange (Go.IntKind.wrap Go.IntKind.i64 ((↑(List.length a1) : Int) - 1)) (List.length a1) then
              some (Sum.inl (y1.fst, a1, a2, List.getD a1 (Int.toNat (Go.IntKind.wrap Go.IntKind.i64 ((↑(List.length a1) : Int) - 1))) 0, y3.snd.snd.fst, y3.snd.snd.snd.fst, ()))
             else
              none
            else
             some (Sum.inl (y1.fst, a1, a2, 0, y3.snd.snd.fst, y3.snd.snd.snd.fst, ()))
           else
            none
          else
           some (Sum.inl (y1.fst, a1, a2, 0, y3.snd.snd.fst, y3.snd.snd.snd.fst, ()))
         else
          none
        else
         some (Sum.inl (y1.fst, a1, a2, 0, y3.snd.snd.fst, y3.snd.snd.snd.fst, ()))
       ) fun y4 =>
        Sum.elim (fun y5 =>
         Option.bind (f11 y5.snd.snd.fst 100) fun y7 =>
          Option.bind (f14 (y5.snd.snd.snd.snd.fst, y5.snd.snd.snd.snd.snd.fst) (Go.IntKind.wrap Go.IntKind.i64 (Go.IntKind.wrap Go.IntKind.i64 (Go.IntKind.wrap Go.IntKind.i64 (y5.fst + (↑(List.length y5.snd.fst) : Int)) + 1) + y7.fst))) fun y8 =>
           Option.bind (f14 (y5.snd.snd.snd.snd.fst, y5.snd.snd.snd.snd.snd.fst) y5.fst) fun y9 =>
            bif y8.fst == y5.snd.snd.snd.fst then
             bif !y8.snd.fst then
              bif y9.fst == 0 then
               some ((!y9.snd.fst, ()))
              else
               some ((Bool.false, ()))
             else
              some ((Bool.false, ()))
            else
             some ((Bool.false, ()))
        ) (fun z6 =>
         some (z6)
        ) (y4)
def f3.ins : Shape := ⟨[(0, .c (.int .i64)), (1, .c (.row (.int .i64))), (2, .c (.int .i64))], []⟩
def f3.outs : List Shape := [⟨[(0, .c (.bool))], []⟩]
def f3.S : FnSpec := ⟨f3.ins, f3.outs, [], fun x => f3 x.1 x.2.1 x.2.2.1⟩
def f3.E (fuel : Nat) : Env := ⟨tis, [(12, f12.S), (13, f13.S), (14, f14.S), (10, f10.S), (11, f11.S)], [], [(12, ⟨[(0, .c (.int .i64)), (1, .c (.row (.int .i64))), (2, .c (.int .i64)), (7, .c (.ptr 0 0)), (8, .c (.int .i64))], [(0, .box [.int .i64, .own 1]), (1, .arr (.int .i64))]⟩)], [], [], 0, [], fuel⟩
theorem f3.run : ∀ x, runFn (f3.E 100000000000000000000) Go.Proofs.Try.f3 ((Go.Proofs.Try.f3.body).getD .skip) f3.S x = f3.S.f x := by intro x; kernel_rfl
theorem f3.sound : Sound Go.Proofs.Try.prog 3 f3.S := sound_of_run (fun _ => f3.E 100000000000000000000) (by kernel_rfl) (by kernel_rfl) (by kernel_rfl) orders (fun _ => ⟨tis_ok, EqsOk.nil _, (FnsOk.cons f12.sound (FnsOk.cons f13.sound (FnsOk.cons f14.sound (FnsOk.cons f10.sound (FnsOk.cons f11.sound FnsOk.nil)))))⟩) (fun _ => rfl) (by kernel_rfl) (by kernel_rfl) (fun x r h => (f3.run x).trans h)
/-! f32: slices.Clone[[]int,int] -/
def f32 (a0 : List Int) : Option (List Int × Unit) := cloneF (.int .i64) 8 a0
def f32.S : FnSpec := ⟨cloneIns (.int .i64), cloneOuts (.int .i64), [], fun x => f32 x.1⟩
def f32.E : Env := ⟨tis, [], [], [], [], [], 0, [], 1⟩
theorem f32.sound : Sound Go.Proofs.Try.prog 32 f32.S := clone_sound (fn := Go.Proofs.Try.f32) (t := 22) (q := 3) (u := 4) (bytes := 8) (i := ty22) f32.E (by kernel_rfl) (by kernel_rfl) (by kernel_rfl) orders (by kernel_rfl) ⟨tis_ok, EqsOk.nil _, FnsOk.nil⟩ rfl (by kernel_rfl) (by kernel_rfl) (by intro l A K; kernel_rfl) (by kernel_rfl) (by intro l; kernel_rfl)
/-! f17: (*adit/rings.Ring).Since -/
def f17 (a0 : Int × List Int) (a1 : Int) : Option (List Int × Unit) :=
 Option.bind (f15 a0) fun y0 =>
  bif Decidable.decide (0 ≤ Go.IntKind.wrap Go.IntKind.i64 (minI (maxI a1 a0.fst) y0.fst - a0.fst) ∧ Go.IntKind.wrap Go.IntKind.i64 (minI (maxI a1 a0.fst) y0.fst - a0.fst) ≤ (↑(List.length a0.snd) : Int) ∧ (↑(List.length a0.snd) : Int) ≤ (↑(List.length a0.snd) : Int)) then
   Option.bind (f32 (List.drop (Int.toNat (Go.IntKind.wrap Go.IntKind.i64 (minI (maxI a1 a0.fst) y0.fst - a0.fst))) (List.take (List.length a0.snd) a0.snd))) fun y1 =>
    some ((y1.fst, ()))
  else
   none
def f17.ins : Shape := ⟨[(0, .c (.bptr (.prod (.int .i64) (.row (.int .i64))))), (1, .c (.int .i64))], []⟩
def f17.outs : List Shape := [⟨[(0, .c (.own 0))], [(0, .arr (.int .i64))]⟩]
def f17.S : FnSpec := ⟨f17.ins, f17.outs, [], fun x => f17 x.1 x.2.1⟩
def f17.E (fuel : Nat) : Env := ⟨tis, [(15, f15.S), (32, f32.S)], [], [], [], [], 0, [], fuel⟩
theorem f17.run : ∀ x, runFn (f17.E 100000000000000000000) Go.Proofs.Try.f17 ((Go.Proofs.Try.f17.body).getD .skip) f17.S x = f17.S.f x := by intro x; kernel_rfl
theorem f17.sound : Sound Go.Proofs.Try.prog 17 f17.S := sound_of_run (fun _ => f17.E 100000000000000000000) (by kernel_rfl) (by kernel_rfl) (by kernel_rfl) orders (fun _ => ⟨tis_ok, EqsOk.nil _, (FnsOk.cons f15.sound (FnsOk.cons f32.sound FnsOk.nil))⟩) (fun _ => rfl) (by kernel_rfl) (by kernel_rfl) (fun x r h => (f17.run x).trans h)
/-! f16: adit/aditlaw17.sameInts -/
def f16 (a0 : List Int) (a1 : List Int) : Option (Bool × Unit) :=
 bif (↑(List.length a0) : Int) != (↑(List.length a1) : Int) then
  some ((Bool.false, ()))
 else
  it (X := List Int × List Int × Int × Unit) (fun rec0 x1 =>
   bif Decidable.decide (x1.snd.snd.fst < (↑(List.length x1.fst) : Int)) then
    bif inRange x1.snd.snd.fst (List.length x1.fst) then
     bif inRange x1.snd.snd.fst (List.length x1.snd.fst) then
      bif List.getD x1.fst (Int.toNat x1.snd.snd.fst) 0 != List.getD x1.snd.fst (Int.toNat x1.snd.snd.fst) 0 then
       some ((Bool.false, ()))
      else
       rec0 (x1.fst, x1.snd.fst, Go.IntKind.wrap Go.IntKind.i64 (x1.snd.snd.fst + 1), ())
     else
      none
    else
     none
   else
    some ((Bool.true, ()))
  ) (100000000000000000000) ((a0, a1, 0, ()))
def f16.ins : Shape := ⟨[(0, .c (.row (.int .i64))), (1, .c (.row (.int .i64)))], []⟩
def f16.outs : List Shape := [⟨[(0, .c (.bool))], []⟩]
def f16.S : FnSpec := ⟨f16.ins, f16.outs, [], fun x => f16 x.1 x.2.1⟩
def f16.E (fuel : Nat) : Env := ⟨tis, [], [], [], [(5, ⟨[(0, .c (.row (.int .i64))), (1, .c (.row (.int .i64))), (5, .c (.int .i64))], []⟩)], [], 0, [], fuel⟩
theorem f16.run : ∀ x, runFn (f16.E 100000000000000000000) Go.Proofs.Try.f16 ((Go.Proofs.Try.f16.body).getD .skip) f16.S x = f16.S.f x := by intro x; kernel_rfl
theorem f16.sound : Sound Go.Proofs.Try.prog 16 f16.S := sound_of_run (fun _ => f16.E 100000000000000000000) (by kernel_rfl) (by kernel_rfl) (by kernel_rfl) orders (fun _ => ⟨tis_ok, EqsOk.nil _, FnsOk.nil⟩) (fun _ => rfl) (by kernel_rfl) (by kernel_rfl) (fun x r h => (f16.run x).trans h)
/-! f4: adit/aditlaw17.RingsJoin -/
def f4 (a0 : Int) (a1 : List Int) (a2 : List Int) (a3 : List Int) : Option (Bool × Unit) :=
 Option.bind (f10) fun y0 =>
  bif !y0.fst then
   some ((Bool.false, ()))
  else
   bif Decidable.decide ((↑(List.length a1) : Int) > 100) then
    some ((Bool.true, ()))
   else
    Option.bind (f11 a0 1000) fun y1 =>
     Option.bind (f12 y1.fst) fun y2 =>
      bif Decidable.decide (0 ≤ (↑(List.length a1) : Int) ∧ (↑(List.length a1) : Int) ≤ (↑(List.length a1) : Int) ∧ (↑(List.length a1) : Int) ≤ (↑(limit 8) : Int)) then
       it (X := Int × List Int × List Int × List Int × Int × Int × List Int × Unit) (fun rec3 x4 =>
        bif Decidable.decide (x4.snd.snd.snd.snd.fst < (↑(List.length x4.snd.fst) : Int)) then
         bif inRange x4.snd.snd.snd.snd.fst (List.length x4.snd.fst) then
          Option.bind (f11 (List.getD x4.snd.fst (Int.toNat x4.snd.snd.snd.snd.fst) 0) 11) fun y5 =>
           bif inRange x4.snd.snd.snd.snd.fst (List.length x4.snd.snd.snd.snd.snd.snd.fst) then
            rec3 (x4.fst, x4.snd.fst, x4.snd.snd.fst, x4.snd.snd.snd.fst, Go.IntKind.wrap Go.IntKind.i64 (x4.snd.snd.snd.snd.fst + 1), x4.snd.snd.snd.snd.snd.fst, List.set x4.snd.snd.snd.snd.snd.snd.fst (Int.toNat x4.snd.snd.snd.snd.fst) y5.fst, ())
           else
            none
         else
          none
        else
         Option.bind (α := Int × Int × List Int × List Int × Unit ⊕ Bool × Unit) (
          it (X := Int × List Int × List Int × Int × Int × Int × List Int × List Int × Unit) (fun rec16 x17 =>
           bif Decidable.decide (x17.snd.snd.snd.snd.fst < (↑(List.length x17.snd.fst) : Int)) then
            bif Decidable.decide (x17.snd.snd.snd.snd.fst < (↑(List.length x17.snd.snd.fst) : Int)) then
             bif Decidable.decide (x17.snd.snd.snd.snd.fst < 40) then
              bif inRange x17.snd.snd.snd.snd.fst (List.length x17.snd.fst) then
               Option.bind (f11 (List.getD x17.snd.fst (Int.toNat x17.snd.snd.snd.snd.fst) 0) (Go.IntKind.wrap Go.IntKind.i64 ((↑(List.length x17.snd.snd.snd.snd.snd.snd.fst) : Int) + 1))) fun y18 =>
                bif inRange x17.snd.snd.snd.snd.fst (List.length x17.snd.snd.fst) then
                 Option.bind (f11 (List.getD x17.snd.snd.fst (Int.toNat x17.snd.snd.snd.snd.fst) 0) (Go.IntKind.wrap Go.IntKind.i64 (Go.IntKind.wrap Go.IntKind.i64 ((↑(List.length x17.snd.snd.snd.snd.snd.snd.fst) : Int) - y18.fst) + 1))) fun y19 =>
                  bif Decidable.decide (0 ≤ y18.fst ∧ y18.fst ≤ Go.IntKind.wrap Go.IntKind.i64 (y18.fst + y19.fst) ∧ Go.IntKind.wrap Go.IntKind.i64 (y18.fst + y19.fst) ≤ (↑(List.length x17.snd.snd.snd.snd.snd.snd.fst) : Int)) then
                   Option.bind (f13_1 (Go.IntKind.wrap Go.IntKind.i64 (Go.IntKind.wrap Go.IntKind.i64 (x17.fst + 1) + y18.fst)) (List.drop (Int.toNat y18.fst) (List.take (Int.toNat (Go.IntKind.wrap Go.IntKind.i64 (y18.fst + y19.fst))) x17.snd.snd.snd.snd.snd.snd.fst)) x17.snd.snd.snd.snd.snd.fst x17.snd.snd.snd.snd.snd.snd.snd.fst) fun y20 =>
                    bif Decidable.decide (y18.fst > x17.snd.snd.snd.fst) then
                     bif y20.snd.fst != 20 then
                      some (Sum.inr (Bool.false, ()))
                     else
                      rec16 (x17.fst, x17.snd.fst, x17.snd.snd.fst, x17.snd.snd.snd.fst, Go.IntKind.wrap Go.IntKind.i64 (x17.snd.snd.snd.snd.fst + 1), y20.snd.snd.fst, x17.snd.snd.snd.snd.snd.snd.fst, y20.snd.snd.snd.fst, ())
                    else
                     bif y20.snd.fst != 0 then
                      some (Sum.inr (Bool.false, ()))
                     else
                      bif y20.fst != maxI 0 (Go.IntKind.wrap Go.IntKind.i64 (Go.IntKind.wrap Go.IntKind.i64 (y18.fst + y19.fst) - x17.snd.snd.snd.fst)) then
                       some (Sum.inr (Bool.false, ()))
                      else
                       rec16 (x17.fst, x17.snd.fst, x17.snd.snd.fst, maxI x17.snd.snd.snd.fst (Go.IntKind.wrap Go.IntKind.i64 (y18.fst + y19.fst)), Go.IntKind.wrap Go.IntKind.i64 (x17.snd.snd.snd.snd.fst + 1), y20.snd.snd.fst, x17.snd.snd.snd.snd.snd.snd.fst, y20.snd.snd.snd.fst, ())
                  else
                   none
                else
                 none
              else
               none
             else
              some (Sum.inl (x17.fst, x17.snd.snd.snd.snd.snd.fst, x17.snd.snd.snd.snd.snd.snd.fst, x17.snd.snd.snd.snd.snd.snd.snd.fst, ()))
            else
             some (Sum.inl (x17.fst, x17.snd.snd.snd.snd.snd.fst, x17.snd.snd.snd.snd.snd.snd.fst, x17.snd.snd.snd.snd.snd.snd.snd.fst, ()))
           else
            some (Sum.inl (x17.fst, x17.snd.snd.snd.snd.snd.fst, x17.snd.snd.snd.snd.snd.snd.fst, x17.snd.snd.snd.snd.snd.snd.snd.fst, ()))
          ) (100000000000000000000) ((x4.fst, x4.snd.snd.fst, x4.snd.snd.snd.fst, 0, 0, x4.snd.snd.snd.snd.snd.fst, x4.snd.snd.snd.snd.snd.snd.fst, [], ()))
         ) fun y6 =>
          Sum.elim (fun y7 =>
           Option.bind (f13_1 (Go.IntKind.wrap Go.IntKind.i64 (y7.fst + 1)) y7.snd.snd.fst y7.snd.fst y7.snd.snd.snd.fst) fun y9 =>
            it (X := Int × Int × Int × List Int × List Int × Unit) (fun rec10 x11 =>
             bif Decidable.decide (x11.snd.fst < (↑(List.length x11.snd.snd.snd.fst) : Int)) then
              Option.bind (f14 (x11.snd.snd.fst, x11.snd.snd.snd.snd.fst) (Go.IntKind.wrap Go.IntKind.i64 (Go.IntKind.wrap Go.IntKind.i64 (x11.fst + 1) + x11.snd.fst))) fun y12 =>
               bif !y12.snd.fst then
                some ((Bool.false, ()))
               else
                bif inRange x11.snd.fst (List.length x11.snd.snd.snd.fst) then
                 bif y12.fst != List.getD x11.snd.snd.snd.fst (Int.toNat x11.snd.fst) 0 then
                  some ((Bool.false, ()))
                 else
                  rec10 (x11.fst, Go.IntKind.wrap Go.IntKind.i64 (x11.snd.fst + 1), x11.snd.snd.fst, x11.snd.snd.snd.fst, x11.snd.snd.snd.snd.fst, ())
                else
                 none
             else
              Option.bind (f15 (x11.snd.snd.fst, x11.snd.snd.snd.snd.fst)) fun y13 =>
               bif y13.fst == Go.IntKind.wrap Go.IntKind.i64 (x11.fst + (↑(List.length x11.snd.snd.snd.fst) : Int)) then
                Option.bind (f17 (x11.snd.snd.fst, x11.snd.snd.snd.snd.fst) x11.fst) fun y14 =>
                 Option.bind (f16 y14.fst x11.snd.snd.snd.fst) fun y15 =>
                  some ((y15.fst, ()))
               else
                some ((Bool.false, ()))
            ) (100000000000000000000) ((y7.fst, 0, y9.snd.snd.fst, y7.snd.snd.fst, y9.snd.snd.snd.fst, ()))
          ) (fun z8 =>
           some (z8)
          ) (y6)
       ) (100000000000000000000) ((y1.fst, a1, a2, a3, 0, y2.fst, List.replicate (List.length a1) 0, ()))
      else
       none
def f4.ins : Shape := ⟨[(0, .c (.int .i64)), (1, .c (.row (.int .i64))), (2, .c (.row (.int .i64))), (3, .c (.row (.int .i64)))], []⟩
def f4.outs : List Shape := [⟨[(0, .c (.bool))], []⟩]
def f4.S : FnSpec := ⟨f4.ins, f4.outs, [], fun x => f4 x.1 x.2.1 x.2.2.1 x.2.2.2.1⟩
def f4.E (fuel : Nat) : Env := ⟨tis, [(12, f12.S), (15, f15.S), (13, f13_1.S), (14, f14.S), (10, f10.S), (11, f11.S), (17, f17.S), (16, f16.S)], [], [(28, ⟨[(0, .c (.int .i64)), (9, .c (.ptr 0 0)), (10, .c (.own 1))], [(0, .box [.int .i64, .own 2]), (1, .arr (.int .i64)), (2, .arr (.int .i64))]⟩)], [(12, ⟨[(0, .c (.int .i64)), (1, .c (.row (.int .i64))), (2, .c (.row (.int .i64))), (3, .c (.row (.int .i64))), (9, .c (.ptr 0 0)), (10, .c (.own 1)), (11, .c (.int .i64))], [(0, .box [.int .i64, .nils]), (1, .arr (.int .i64))]⟩), (17, ⟨[(0, .c (.int .i64)), (2, .c (.row (.int .i64))), (3, .c (.row (.int .i64))), (9, .c (.ptr 0 0)), (10, .c (.own 1)), (12, .c (.int .i64)), (13, .c (.int .i64))], [(0, .box [.int .i64, .own 2]), (1, .arr (.int .i64)), (2, .arr (.int .i64))]⟩), (30, ⟨[(0, .c (.int .i64)), (9, .c (.ptr 0 0)), (10, .c (.own 1)), (18, .c (.int .i64))], [(0, .box [.int .i64, .own 2]), (1, .arr (.int .i64)), (2, .arr (.int .i64))]⟩)], [], 0, [], fuel⟩
theorem f4.run : ∀ x, runFn (f4.E 100000000000000000000) Go.Proofs.Try.f4 ((Go.Proofs.Try.f4.body).getD .skip) f4.S x = f4.S.f x := by intro x; kernel_rfl
theorem f4.sound : Sound Go.Proofs.Try.prog 4 f4.S := sound_of_run (fun _ => f4.E 100000000000000000000) (by kernel_rfl) (by kernel_rfl) (by kernel_rfl) orders (fun _ => ⟨tis_ok, EqsOk.nil _, (FnsOk.cons f12.sound (FnsOk.cons f15.sound (FnsOk.cons f13_1.sound (FnsOk.cons f14.sound (FnsOk.cons f10.sound (FnsOk.cons f11.sound (FnsOk.cons f17.sound (FnsOk.cons f16.sound FnsOk.nil))))))))⟩) (fun _ => rfl) (by kernel_rfl) (by kernel_rfl) (fun x r h => (f4.run x).trans h)
/-! f18: (*adit/rings.Ring).Trim -/
def f18 (a0 : Int) (a1 : Int) (a2 : List Int) : Option (Int × List Int × Unit) :=
 Option.bind (f15 (a1, a2)) fun y0 =>
  bif Decidable.decide (Go.IntKind.wrap Go.IntKind.i64 (minI (maxI a0 a1) (Go.IntKind.wrap Go.IntKind.i64 (y0.fst - 1)) - a1) > 0) then
   bif Decidable.decide (0 ≤ Go.IntKind.wrap Go.IntKind.i64 (minI (maxI a0 a1) (Go.IntKind.wrap Go.IntKind.i64 (y0.fst - 1)) - a1) ∧ Go.IntKind.wrap Go.IntKind.i64 (minI (maxI a0 a1) (Go.IntKind.wrap Go.IntKind.i64 (y0.fst - 1)) - a1) ≤ (↑(List.length a2) : Int) ∧ (↑(List.length a2) : Int) ≤ (↑(List.length a2) : Int)) then
    Option.bind (f32 (List.drop (Int.toNat (Go.IntKind.wrap Go.IntKind.i64 (minI (maxI a0 a1) (Go.IntKind.wrap Go.IntKind.i64 (y0.fst - 1)) - a1))) (List.take (List.length a2) a2))) fun y1 =>
     some ((Go.IntKind.wrap Go.IntKind.i64 (a1 + Go.IntKind.wrap Go.IntKind.i64 (minI (maxI a0 a1) (Go.IntKind.wrap Go.IntKind.i64 (y0.fst - 1)) - a1)), y1.fst, ()))
   else
    none
  else
   some ((a1, a2, ()))
def f18.ins : Shape := ⟨[(0, .c (.ptr 0 0)), (1, .c (.int .i64))], [(0, .box [.int .i64, .own 1]), (1, .arr (.int .i64))]⟩
def f18.outs : List Shape := [⟨[], [(0, .box [.int .i64, .own 2]), (2, .arr (.int .i64))]⟩]
def f18.S : FnSpec := ⟨f18.ins, f18.outs, [0], fun x => f18 x.1 x.2.1 x.2.2.1⟩
def f18.E (fuel : Nat) : Env := ⟨tis, [(15, f15.S), (32, f32.S)], [], [], [], [], 2, [0], fuel⟩
theorem f18.run : ∀ x, runFn (f18.E 100000000000000000000) Go.Proofs.Try.f18 ((Go.Proofs.Try.f18.body).getD .skip) f18.S x = f18.S.f x := by intro x; kernel_rfl
theorem f18.sound : Sound Go.Proofs.Try.prog 18 f18.S := sound_of_run (fun _ => f18.E 100000000000000000000) (by kernel_rfl) (by kernel_rfl) (by kernel_rfl) orders (fun _ => ⟨tis_ok, EqsOk.nil _, (FnsOk.cons f15.sound (FnsOk.cons f32.sound FnsOk.nil))⟩) (fun _ => rfl) (by kernel_rfl) (by kernel_rfl) (fun x r h => (f18.run x).trans h)
/-! f5: adit/aditlaw17.RingsForget -/
def f5 (a0 : Int) (a1 : List Int) (a2 : Int) (a3 : List Int) : Option (Bool × Unit) :=
 Option.bind (f10) fun y0 =>
  bif !y0.fst then
   some ((Bool.false, ()))
  else
   bif (↑(List.length a1) : Int) == 0 then
    some ((Bool.true, ()))
   else
    bif Decidable.decide ((↑(List.length a1) : Int) > 50) then
     some ((Bool.true, ()))
    else
     bif Decidable.decide ((↑(List.length a3) : Int) > 50) then
      some ((Bool.true, ()))
     else
      Option.bind (f11 a0 1000) fun y1 =>
       Option.bind (f12 y1.fst) fun y2 =>
        Option.bind (f13 (Go.IntKind.wrap Go.IntKind.i64 (y1.fst + 1)) a1 y2.fst) fun y3 =>
         Option.bind (f11 a2 (Go.IntKind.wrap Go.IntKind.i64 ((↑(List.length a1) : Int) + 5))) fun y4 =>
          Option.bind (f18 (Go.IntKind.wrap Go.IntKind.i64 (y1.fst + y4.fst)) y3.snd.snd.fst y3.snd.snd.snd.fst) fun y5 =>
           Option.bind (f17 (y5.fst, y5.snd.fst) 0) fun y6 =>
            bif (↑(List.length y6.fst) : Int) != maxI (Go.IntKind.wrap Go.IntKind.i64 ((↑(List.length a1) : Int) - y4.fst)) 1 then
             some ((Bool.false, ()))
            else
             Option.bind (f15 (y5.fst, y5.snd.fst)) fun y7 =>
              bif y7.fst != Go.IntKind.wrap Go.IntKind.i64 (y1.fst + (↑(List.length a1) : Int)) then
               some ((Bool.false, ()))
              else
               it (X := Int × List Int × List Int × Int × Int × Int × List Int × Unit) (fun rec8 x9 =>
                bif Decidable.decide (x9.snd.snd.snd.snd.fst < (↑(List.length x9.snd.fst) : Int)) then
                 Option.bind (f14 (x9.snd.snd.snd.snd.snd.fst, x9.snd.snd.snd.snd.snd.snd.fst) (Go.IntKind.wrap Go.IntKind.i64 (Go.IntKind.wrap Go.IntKind.i64 (x9.fst + 1) + x9.snd.snd.snd.snd.fst))) fun y10 =>
                  bif !y10.snd.fst == Decidable.decide (x9.snd.snd.snd.snd.fst ≥ Go.IntKind.wrap Go.IntKind.i64 ((↑(List.length x9.snd.fst) : Int) - x9.snd.snd.snd.fst)) then
                   some ((Bool.false, ()))
                  else
                   rec8 (x9.fst, x9.snd.fst, x9.snd.snd.fst, x9.snd.snd.snd.fst, Go.IntKind.wrap Go.IntKind.i64 (x9.snd.snd.snd.snd.fst + 1), x9.snd.snd.snd.snd.snd.fst, x9.snd.snd.snd.snd.snd.snd.fst, ())
                else
                 Option.bind (f13_1 (Go.IntKind.wrap Go.IntKind.i64 (Go.IntKind.wrap Go.IntKind.i64 (x9.fst + (↑(List.length x9.snd.fst) : Int)) + 1)) x9.snd.snd.fst x9.snd.snd.snd.snd.snd.fst x9.snd.snd.snd.snd.snd.snd.fst) fun y11 =>
                  bif y11.snd.fst == 0 then
                   bif y11.fst == (↑(List.length x9.snd.snd.fst) : Int) then
                    Option.bind (f17 (y11.snd.snd.fst, y11.snd.snd.snd.fst) (Go.IntKind.wrap Go.IntKind.i64 (x9.fst + (↑(List.length x9.snd.fst) : Int)))) fun y12 =>
                     some (((↑(List.length y12.fst) : Int) == (↑(List.length x9.snd.snd.fst) : Int), ()))
                   else
                    some ((Bool.false, ()))
                  else
                   some ((Bool.false, ()))
               ) (100000000000000000000) ((y1.fst, a1, a3, maxI (Go.IntKind.wrap Go.IntKind.i64 ((↑(List.length a1) : Int) - y4.fst)) 1, 0, y5.fst, y5.snd.fst, ()))
def f5.ins : Shape := ⟨[(0, .c (.int .i64)), (1, .c (.row (.int .i64))), (2, .c (.int .i64)), (3, .c (.row (.int .i64)))], []⟩
def f5.outs : List Shape := [⟨[(0, .c (.bool))], []⟩]
def f5.S : FnSpec := ⟨f5.ins, f5.outs, [], fun x => f5 x.1 x.2.1 x.2.2.1 x.2.2.2.1⟩
def f5.E (fuel : Nat) : Env := ⟨tis, [(12, f12.S), (15, f15.S), (13, f13.S), (13, f13_1.S), (14, f14.S), (10, f10.S), (11, f11.S), (17, f17.S), (18, f18.S)], [], [], [(15, ⟨[(0, .c (.int .i64)), (1, .c (.row (.int .i64))), (3, .c (.row (.int .i64))), (9, .c (.ptr 0 0)), (11, .c (.int .i64)), (12, .c (.int .i64))], [(0, .box [.int .i64, .own 1]), (1, .arr (.int .i64))]⟩)], [], 0, [], fuel⟩
theorem f5.run : ∀ x, runFn (f5.E 100000000000000000000) Go.Proofs.Try.f5 ((Go.Proofs.Try.f5.body).getD .skip) f5.S x = f5.S.f x := by intro x; kernel_rfl
theorem f5.sound : Sound Go.Proofs.Try.prog 5 f5.S := sound_of_run (fun _ => f5.E 100000000000000000000) (by kernel_rfl) (by kernel_rfl) (by kernel_rfl) orders (fun _ => ⟨tis_ok, EqsOk.nil _, (FnsOk.cons f12.sound (FnsOk.cons f15.sound (FnsOk.cons f13.sound (FnsOk.cons f13_1.sound (FnsOk.cons f14.sound (FnsOk.cons f10.sound (FnsOk.cons f11.sound (FnsOk.cons f17.sound (FnsOk.cons f18.sound FnsOk.nil)))))))))⟩) (fun _ => rfl) (by kernel_rfl) (by kernel_rfl) (fun x r h => (f5.run x).trans h)
/-! f22: adit/ents.Stats -/
def f22 (a0 : Int) : Option (Int × Int × Int × Int × Int × Int × Int × Int × Int × Int × Int × Unit) :=
 Option.bind (α := Int × Int × Int × Int × Int × Int × Int × Int × Int × Int × Int × Int × Int × Int × Int × Int × Int × Int × Int × Int × Int × Int × Unit ⊕ Int × Int × Int × Int × Int × Int × Int × Int × Int × Int × Int × Unit) (
  bif a0 == 1 then
   some (Sum.inl (0, 0, 0, 0, 0, 0, 0, 0, 0, 0, 0, a0, 0, 0, 0, 0, 20, 0, 5, 1, 0, 0, ()))
  else
   bif a0 == 2 then
    some (Sum.inl (0, 0, 0, 0, 0, 0, 0, 0, 0, 0, 0, a0, 0, 0, 0, 0, 4, 0, 2, 0, 0, 0, ()))
   else
    bif a0 == 3 then
     some (Sum.inl (0, 0, 0, 0, 0, 0, 0, 0, 0, 0, 0, a0, 0, 0, 0, 0, 9, 0, 4, 1, 0, 0, ()))
    else
     bif a0 == 4 then
      some (Sum.inl (0, 0, 0, 0, 0, 0, 0, 0, 0, 0, 0, a0, 0, 0, 0, 0, 6, 0, 3, 0, 0, 0, ()))
     else
      some (Sum.inr (0, 0, 0, 0, 0, 0, 0, 0, 0, 0, 0, ()))
 ) fun y0 =>
  Sum.elim (fun y1 =>
   some ((y1.snd.snd.snd.snd.snd.snd.snd.snd.snd.snd.snd.fst, y1.snd.snd.snd.snd.snd.snd.snd.snd.snd.snd.snd.snd.fst, y1.snd.snd.snd.snd.snd.snd.snd.snd.snd.snd.snd.snd.snd.fst, y1.snd.snd.snd.snd.snd.snd.snd.snd.snd.snd.snd.snd.snd.snd.fst, y1.snd.snd.snd.snd.snd.snd.snd.snd.snd.snd.snd.snd.snd.snd.snd.fst, y1.snd.snd.snd.snd.snd.snd.snd.snd.snd.snd.snd.snd.snd.snd.snd.snd.fst, y1.snd.snd.snd.snd.snd.snd.snd.snd.snd.snd.snd.snd.snd.snd.snd.snd.fst, y1.snd.snd.snd.snd.snd.snd.snd.snd.snd.snd.snd.snd.snd.snd.snd.snd.snd.snd.fst, y1.snd.snd.snd.snd.snd.snd.snd.snd.snd.snd.snd.snd.snd.snd.snd.snd.snd.snd.snd.fst, y1.snd.snd.snd.snd.snd.snd.snd.snd.snd.snd.snd.snd.snd.snd.snd.snd.snd.snd.snd.snd.fst, y1.snd.snd.snd.snd.snd.snd.snd.snd.snd.snd.snd.snd.snd.snd.snd.snd.snd.snd.snd.snd.snd.fst, ()))
  ) (fun z2 =>
   some (z2)
  ) (y0)
def f22.ins : Shape := ⟨[(0, .c (.int .i64))], []⟩
def f22.outs : List Shape := [⟨[(0, .agg [.int .i64, .int .i64, .int .i64, .int .i64, .int .i64, .int .i64, .int .i64, .int .i64, .int .i64, .int .i64, .int .i64])], []⟩]
def f22.S : FnSpec := ⟨f22.ins, f22.outs, [], fun x => f22 x.1⟩
def f22.E (fuel : Nat) : Env := ⟨tis, [], [], [(13, ⟨[(2, .c (.ptr 0 0)), (3, .c (.ptr 1 0))], [(0, .box [.int .i64, .int .i64, .int .i64, .int .i64, .int .i64, .int .i64, .int .i64, .int .i64, .int .i64, .int .i64, .int .i64]), (1, .box [.int .i64, .int .i64, .int .i64, .int .i64, .int .i64, .int .i64, .int .i64, .int .i64, .int .i64, .int .i64, .int .i64])]⟩)], [], [], 0, [], fuel⟩
theorem f22.run : ∀ x, runFn (f22.E 100000000000000000000) Go.Proofs.Try.f22 ((Go.Proofs.Try.f22.body).getD .skip) f22.S x = f22.S.f x := by intro x; kernel_rfl
theorem f22.sound : Sound Go.Proofs.Try.prog 22 f22.S := sound_of_run (fun _ => f22.E 100000000000000000000) (by kernel_rfl) (by kernel_rfl) (by kernel_rfl) orders (fun _ => ⟨tis_ok, EqsOk.nil _, FnsOk.nil⟩) (fun _ => rfl) (by kernel_rfl) (by kernel_rfl) (fun x r h => (f22.run x).trans h)
/-! f36: adit/ents.rows -/
def f36 (a0 : List (Int × Int × Int × Int × Int × Int × Int × Int × Int × Int × Int)) : Option (List (Int × Int × Int × Int × Int × Int × Int × Int × Int × Int × Int) × Unit) :=
 bif Decidable.decide ((0 : Int) ≤ 0 ∧ 0 ≤ minI (↑(List.length a0) : Int) 32 ∧ minI (↑(List.length a0) : Int) 32 ≤ (↑(List.length a0) : Int)) then
  some ((List.drop (Int.toNat 0) (List.take (Int.toNat (minI (↑(List.length a0) : Int) 32)) a0), ()))
 else
  none
def f36.ins : Shape := ⟨[(0, .c (.row (.prod (.int .i64) (.prod (.int .i64) (.prod (.int .i64) (.prod (.int .i64) (.prod (.int .i64) (.prod (.int .i64) (.prod (.int .i64) (.prod (.int .i64) (.prod (.int .i64) (.prod (.int .i64) (.int .i64)))))))))))))], []⟩
def f36.outs : List Shape := [⟨[(0, .c (.row (.prod (.int .i64) (.prod (.int .i64) (.prod (.int .i64) (.prod (.int .i64) (.prod (.int .i64) (.prod (.int .i64) (.prod (.int .i64) (.prod (.int .i64) (.prod (.int .i64) (.prod (.int .i64) (.int .i64)))))))))))))], []⟩]
def f36.S : FnSpec := ⟨f36.ins, f36.outs, [], fun x => f36 x.1⟩
def f36.E (fuel : Nat) : Env := ⟨tis, [], [], [], [], [], 0, [], fuel⟩
theorem f36.run : ∀ x, runFn (f36.E 100000000000000000000) Go.Proofs.Try.f36 ((Go.Proofs.Try.f36.body).getD .skip) f36.S x = f36.S.f x := by intro x; kernel_rfl
theorem f36.sound : Sound Go.Proofs.Try.prog 36 f36.S := sound_of_run (fun _ => f36.E 100000000000000000000) (by kernel_rfl) (by kernel_rfl) (by kernel_rfl) orders (fun _ => ⟨tis_ok, EqsOk.nil _, FnsOk.nil⟩) (fun _ => rfl) (by kernel_rfl) (by kernel_rfl) (fun x r h => (f36.run x).trans h)
/-! f34: adit/ents.Spawn$1 -/
def f34 (a0 : Int) (a1 : Int) (a2 : Int) (a3 : Int) (a4 : Int) (a5 : Int) (a6 : Int) (a7 : Int) (a8 : Int) (a9 : Int) (a10 : Int) (a11 : Int) : Option (Bool × Unit) :=
 some ((a1 == 0, ()))
def f34.ins : Shape := ⟨[(0, .c (.int .i64)), (1, .agg [.int .i64, .int .i64, .int .i64, .int .i64, .int .i64, .int .i64, .int .i64, .int .i64, .int .i64, .int .i64, .int .i64])], []⟩
def f34.outs : List Shape := [⟨[(0, .c (.bool))], []⟩]
def f34.S : FnSpec := ⟨f34.ins, f34.outs, [], fun x => f34 x.1 x.2.1 x.2.2.1 x.2.2.2.1 x.2.2.2.2.1 x.2.2.2.2.2.1 x.2.2.2.2.2.2.1 x.2.2.2.2.2.2.2.1 x.2.2.2.2.2.2.2.2.1 x.2.2.2.2.2.2.2.2.2.1 x.2.2.2.2.2.2.2.2.2.2.1 x.2.2.2.2.2.2.2.2.2.2.2.1⟩
def f34.E (fuel : Nat) : Env := ⟨tis, [], [], [], [], [], 0, [], fuel⟩
theorem f34.run : ∀ x, runFn (f34.E 100000000000000000000) Go.Proofs.Try.f34 ((Go.Proofs.Try.f34.body).getD .skip) f34.S x = f34.S.f x := by intro x; kernel_rfl
theorem f34.sound : Sound Go.Proofs.Try.prog 34 f34.S := sound_of_run (fun _ => f34.E 100000000000000000000) (by kernel_rfl) (by kernel_rfl) (by kernel_rfl) orders (fun _ => ⟨tis_ok, EqsOk.nil _, FnsOk.nil⟩) (fun _ => rfl) (by kernel_rfl) (by kernel_rfl) (fun x r h => (f34.run x).trans h)
/-! f33: adit/ents.find -/
def f33 (a0 : List (Int × Int × Int × Int × Int × Int × Int × Int × Int × Int × Int)) : Option (Int × Unit) :=
 Option.bind (f36 a0) fun y0 =>
  it (X := List (Int × Int × Int × Int × Int × Int × Int × Int × Int × Int × Int) × Int × Int × Unit) (fun rec1 x2 =>
   bif Decidable.decide (x2.snd.snd.fst < x2.snd.fst) then
    bif inRange x2.snd.snd.fst (List.length x2.fst) then
     Option.bind (f34 x2.snd.snd.fst (List.getD x2.fst (Int.toNat x2.snd.snd.fst) (0, 0, 0, 0, 0, 0, 0, 0, 0, 0, 0)).fst (List.getD x2.fst (Int.toNat x2.snd.snd.fst) (0, 0, 0, 0, 0, 0, 0, 0, 0, 0, 0)).snd.fst (List.getD x2.fst (Int.toNat x2.snd.snd.fst) (0, 0, 0, 0, 0, 0, 0, 0, 0, 0, 0)).snd.snd.fst (List.getD x2.fst (Int.toNat x2.snd.snd.fst) (0, 0, 0, 0, 0, 0, 0, 0, 0, 0, 0)).snd.snd.snd.fst (List.getD x2.fst (Int.toNat x2.snd.snd.fst) (0, 0, 0, 0, 0, 0, 0, 0, 0, 0, 0)).snd.snd.snd.snd.fst (List.getD x2.fst (Int.toNat x2.snd.snd.fst) (0, 0, 0, 0, 0, 0, 0, 0, 0, 0, 0)).snd.snd.snd.snd.snd.fst (List.getD x2.fst (Int.toNat x2.snd.snd.fst) (0, 0, 0, 0, 0, 0, 0, 0, 0, 0, 0)).snd.snd.snd.snd.snd.snd.fst (List.getD x2.fst (Int.toNat x2.snd.snd.fst) (0, 0, 0, 0, 0, 0, 0, 0, 0, 0, 0)).snd.snd.snd.snd.snd.snd.snd.fst (List.getD x2.fst (Int.toNat x2.snd.snd.fst) (0, 0, 0, 0, 0, 0, 0, 0, 0, 0, 0)).snd.snd.snd.snd.snd.snd.snd.snd.fst (List.getD x2.fst (Int.toNat x2.snd.snd.fst) (0, 0, 0, 0, 0, 0, 0, 0, 0, 0, 0)).snd.snd.snd.snd.snd.snd.snd.snd.snd.fst (List.getD x2.fst (Int.toNat x2.snd.snd.fst) (0, 0, 0, 0, 0, 0, 0, 0, 0, 0, 0)).snd.snd.snd.snd.snd.snd.snd.snd.snd.snd) fun y3 =>
      bif y3.fst then
       some ((x2.snd.snd.fst, ()))
      else
       rec1 (x2.fst, x2.snd.fst, Go.IntKind.wrap Go.IntKind.i64 (x2.snd.snd.fst + 1), ())
    else
     none
   else
    some ((-1, ()))
  ) (100000000000000000000) ((y0.fst, (↑(List.length y0.fst) : Int), 0, ()))
def f33.ins : Shape := ⟨[(0, .c (.row (.prod (.int .i64) (.prod (.int .i64) (.prod (.int .i64) (.prod (.int .i64) (.prod (.int .i64) (.prod (.int .i64) (.prod (.int .i64) (.prod (.int .i64) (.prod (.int .i64) (.prod (.int .i64) (.int .i64))))))))))))), (1, .c (.fn 34 []))], []⟩
def f33.outs : List Shape := [⟨[(0, .c (.int .i64))], []⟩]
def f33.S : FnSpec := ⟨f33.ins, f33.outs, [], fun x => f33 x.1⟩
def f33.E (fuel : Nat) : Env := ⟨tis, [(36, f36.S), (34, f34.S)], [], [], [(3, ⟨[(1, .c (.fn 34 [])), (8, .c (.row (.prod (.int .i64) (.prod (.int .i64) (.prod (.int .i64) (.prod (.int .i64) (.prod (.int .i64) (.prod (.int .i64) (.prod (.int .i64) (.prod (.int .i64) (.prod (.int .i64) (.prod (.int .i64) (.int .i64))))))))))))), (9, .c (.int .i64)), (10, .c (.int .i64))], []⟩)], [], 0, [], fuel⟩
theorem f33.run : ∀ x, runFn (f33.E 100000000000000000000) Go.Proofs.Try.f33 ((Go.Proofs.Try.f33.body).getD .skip) f33.S x = f33.S.f x := by intro x; kernel_rfl
theorem f33.sound : Sound Go.Proofs.Try.prog 33 f33.S := sound_of_run (fun _ => f33.E 100000000000000000000) (by kernel_rfl) (by kernel_rfl) (by kernel_rfl) orders (fun _ => ⟨tis_ok, EqsOk.nil _, (FnsOk.cons f36.sound (FnsOk.cons f34.sound FnsOk.nil))⟩) (fun _ => rfl) (by kernel_rfl) (by kernel_rfl) (fun x r h => (f33.run x).trans h)
/-! f35: slices.Clone[[]adit/api.Ent,adit/api.Ent] -/
def f35 (a0 : List (Int × Int × Int × Int × Int × Int × Int × Int × Int × Int × Int)) : Option (List (Int × Int × Int × Int × Int × Int × Int × Int × Int × Int × Int) × Unit) := cloneF (.prod (.int .i64) (.prod (.int .i64) (.prod (.int .i64) (.prod (.int .i64) (.prod (.int .i64) (.prod (.int .i64) (.prod (.int .i64) (.prod (.int .i64) (.prod (.int .i64) (.prod (.int .i64) (.int .i64))))))))))) 88 a0
def f35.S : FnSpec := ⟨cloneIns (.prod (.int .i64) (.prod (.int .i64) (.prod (.int .i64) (.prod (.int .i64) (.prod (.int .i64) (.prod (.int .i64) (.prod (.int .i64) (.prod (.int .i64) (.prod (.int .i64) (.prod (.int .i64) (.int .i64))))))))))), cloneOuts (.prod (.int .i64) (.prod (.int .i64) (.prod (.int .i64) (.prod (.int .i64) (.prod (.int .i64) (.prod (.int .i64) (.prod (.int .i64) (.prod (.int .i64) (.prod (.int .i64) (.prod (.int .i64) (.int .i64))))))))))), [], fun x => f35 x.1⟩
def f35.E : Env := ⟨tis, [], [], [], [], [], 0, [], 1⟩
theorem f35.sound : Sound Go.Proofs.Try.prog 35 f35.S := clone_sound (fn := Go.Proofs.Try.f35) (t := 39) (q := 43) (u := 4) (bytes := 88) (i := ty39) f35.E (by kernel_rfl) (by kernel_rfl) (by kernel_rfl) orders (by kernel_rfl) ⟨tis_ok, EqsOk.nil _, FnsOk.nil⟩ rfl (by kernel_rfl) (by kernel_rfl) (by intro l A K; kernel_rfl) (by kernel_rfl) (by intro l; kernel_rfl)
/-! f21: adit/ents.Spawn -/
def f21 (a0 : List (Int × Int × Int × Int × Int × Int × Int × Int × Int × Int × Int)) (a1 : Int) (a2 : Int) (a3 : Int) (a4 : Int) (a5 : Int) (a6 : Int) (a7 : Int) (a8 : Int) (a9 : Int) (a10 : Int) (a11 : Int) : Option (Int × Int × List (Int × Int × Int × Int × Int × Int × Int × Int × Int × Int × Int) × Unit) :=
 bif Decidable.decide (a1 < 1) then
  some ((0, 3, [], ()))
 else
  bif Decidable.decide (a1 > 4) then
   some ((0, 3, [], ()))
  else
   Option.bind (f33 a0) fun y0 =>
    bif Decidable.decide (y0.fst < 0) then
     some ((0, 5, [], ()))
    else
     Option.bind (f35 a0) fun y1 =>
      bif inRange y0.fst (List.length a0) then
       bif inRange y0.fst (List.length y1.fst) then
        some ((y0.fst, 0, List.set y1.fst (Int.toNat y0.fst) (a1, Int.tmod (Go.IntKind.wrap Go.IntKind.i64 (Int.tmod (Go.IntKind.wrap Go.IntKind.i64 ((List.getD a0 (Int.toNat y0.fst) (0, 0, 0, 0, 0, 0, 0, 0, 0, 0, 0)).snd.fst + 1)) 256 + 256)) 256, a3, a4, a5, a6, a7, a8, a9, a10, a11), ()))
       else
        none
      else
       none
def f21.ins : Shape := ⟨[(0, .c (.row (.prod (.int .i64) (.prod (.int .i64) (.prod (.int .i64) (.prod (.int .i64) (.prod (.int .i64) (.prod (.int .i64) (.prod (.int .i64) (.prod (.int .i64) (.prod (.int .i64) (.prod (.int .i64) (.int .i64))))))))))))), (1, .agg [.int .i64, .int .i64, .int .i64, .int .i64, .int .i64, .int .i64, .int .i64, .int .i64, .int .i64, .int .i64, .int .i64])], []⟩
def f21.outs : List Shape := [⟨[(0, .c (.own 0)), (1, .c (.int .i64)), (2, .c (.int .i64))], [(0, .arr (.prod (.int .i64) (.prod (.int .i64) (.prod (.int .i64) (.prod (.int .i64) (.prod (.int .i64) (.prod (.int .i64) (.prod (.int .i64) (.prod (.int .i64) (.prod (.int .i64) (.prod (.int .i64) (.int .i64))))))))))))]⟩]
def f21.S : FnSpec := ⟨f21.ins, f21.outs, [], fun x => f21 x.1 x.2.1 x.2.2.1 x.2.2.2.1 x.2.2.2.2.1 x.2.2.2.2.2.1 x.2.2.2.2.2.2.1 x.2.2.2.2.2.2.2.1 x.2.2.2.2.2.2.2.2.1 x.2.2.2.2.2.2.2.2.2.1 x.2.2.2.2.2.2.2.2.2.2.1 x.2.2.2.2.2.2.2.2.2.2.2.1⟩
def f21.E (fuel : Nat) : Env := ⟨tis, [(33, f33.S), (35, f35.S)], [], [], [], [], 0, [], fuel⟩
theorem f21.run : ∀ x, runFn (f21.E 100000000000000000000) Go.Proofs.Try.f21 ((Go.Proofs.Try.f21.body).getD .skip) f21.S x = f21.S.f x := by intro x; kernel_rfl
theorem f21.sound : Sound Go.Proofs.Try.prog 21 f21.S := sound_of_run (fun _ => f21.E 100000000000000000000) (by kernel_rfl) (by kernel_rfl) (by kernel_rfl) orders (fun _ => ⟨tis_ok, EqsOk.nil _, (FnsOk.cons f33.sound (FnsOk.cons f35.sound FnsOk.nil))⟩) (fun _ => rfl) (by kernel_rfl) (by kernel_rfl) (fun x r h => (f21.run x).trans h)
/-! f25: adit/ents.Id -/
def f25 (a0 : List (Int × Int × Int × Int × Int × Int × Int × Int × Int × Int × Int)) (a1 : Int) : Option (Int × Unit) :=
 bif Decidable.decide (a1 < 0) then
  some ((-1, ()))
 else
  Option.bind (f36 a0) fun y0 =>
   bif Decidable.decide (a1 ≥ (↑(List.length y0.fst) : Int)) then
    some ((-1, ()))
   else
    bif inRange a1 (List.length a0) then
     bif (List.getD a0 (Int.toNat a1) (0, 0, 0, 0, 0, 0, 0, 0, 0, 0, 0)).fst == 0 then
      some ((-1, ()))
     else
      bif inRange a1 (List.length a0) then
       some ((Go.IntKind.wrap Go.IntKind.i64 (a1 + Go.IntKind.wrap Go.IntKind.i64 (32 * (List.getD a0 (Int.toNat a1) (0, 0, 0, 0, 0, 0, 0, 0, 0, 0, 0)).snd.fst)), ()))
      else
       none
    else
     none
def f25.ins : Shape := ⟨[(0, .c (.row (.prod (.int .i64) (.prod (.int .i64) (.prod (.int .i64) (.prod (.int .i64) (.prod (.int .i64) (.prod (.int .i64) (.prod (.int .i64) (.prod (.int .i64) (.prod (.int .i64) (.prod (.int .i64) (.int .i64))))))))))))), (1, .c (.int .i64))], []⟩
def f25.outs : List Shape := [⟨[(0, .c (.int .i64))], []⟩]
def f25.S : FnSpec := ⟨f25.ins, f25.outs, [], fun x => f25 x.1 x.2.1⟩
def f25.E (fuel : Nat) : Env := ⟨tis, [(36, f36.S)], [], [], [], [], 0, [], fuel⟩
theorem f25.run : ∀ x, runFn (f25.E 100000000000000000000) Go.Proofs.Try.f25 ((Go.Proofs.Try.f25.body).getD .skip) f25.S x = f25.S.f x := by intro x; kernel_rfl
theorem f25.sound : Sound Go.Proofs.Try.prog 25 f25.S := sound_of_run (fun _ => f25.E 100000000000000000000) (by kernel_rfl) (by kernel_rfl) (by kernel_rfl) orders (fun _ => ⟨tis_ok, EqsOk.nil _, (FnsOk.cons f36.sound FnsOk.nil)⟩) (fun _ => rfl) (by kernel_rfl) (by kernel_rfl) (fun x r h => (f25.run x).trans h)
/-! f19: adit/aditlaw5.known -/
def f19 : Option (Bool × Unit) :=
 Option.bind (f22 2) fun y0 =>
  Option.bind (f21 (List.replicate (Int.toNat 32) (0, 0, 0, 0, 0, 0, 0, 0, 0, 0, 0)) y0.fst y0.snd.fst y0.snd.snd.fst y0.snd.snd.snd.fst y0.snd.snd.snd.snd.fst y0.snd.snd.snd.snd.snd.fst y0.snd.snd.snd.snd.snd.snd.fst y0.snd.snd.snd.snd.snd.snd.snd.fst y0.snd.snd.snd.snd.snd.snd.snd.snd.fst y0.snd.snd.snd.snd.snd.snd.snd.snd.snd.fst y0.snd.snd.snd.snd.snd.snd.snd.snd.snd.snd.fst) fun y1 =>
   bif y1.snd.fst == 0 then
    bif y1.fst == 0 then
     bif (↑(List.length y1.snd.snd.fst) : Int) == 32 then
      Option.bind (f25 y1.snd.snd.fst 0) fun y2 =>
       some ((y2.fst == 32, ()))
     else
      some ((Bool.false, ()))
    else
     some ((Bool.false, ()))
   else
    some ((Bool.false, ()))
def f19.ins : Shape := ⟨[], []⟩
def f19.outs : List Shape := [⟨[(0, .c (.bool))], []⟩]
def f19.S : FnSpec := ⟨f19.ins, f19.outs, [], fun _ => f19⟩
def f19.E (fuel : Nat) : Env := ⟨tis, [(22, f22.S), (21, f21.S), (25, f25.S)], [], [], [], [], 0, [], fuel⟩
theorem f19.run : ∀ x, runFn (f19.E 100000000000000000000) Go.Proofs.Try.f19 ((Go.Proofs.Try.f19.body).getD .skip) f19.S x = f19.S.f x := by intro x; kernel_rfl
theorem f19.sound : Sound Go.Proofs.Try.prog 19 f19.S := sound_of_run (fun _ => f19.E 100000000000000000000) (by kernel_rfl) (by kernel_rfl) (by kernel_rfl) orders (fun _ => ⟨tis_ok, EqsOk.nil _, (FnsOk.cons f22.sound (FnsOk.cons f21.sound (FnsOk.cons f25.sound FnsOk.nil)))⟩) (fun _ => rfl) (by kernel_rfl) (by kernel_rfl) (fun x r h => (f19.run x).trans h)
/-! f20: adit/aditlaw5.within -/
def f20 (a0 : Int) (a1 : Int) : Option (Int × Unit) :=
 bif Decidable.decide (a1 = 0) then
  none
 else
  Option.bind (α := Int × Unit ⊕ Int × Unit) (
   bif Decidable.decide (Int.tmod a0 a1 < 0) then
    some (Sum.inl (Go.IntKind.wrap Go.IntKind.i64 (Int.tmod a0 a1 + a1), ()))
   else
    some (Sum.inl (Int.tmod a0 a1, ()))
  ) fun y0 =>
   Sum.elim (fun y1 =>
    some ((y1.fst, ()))
   ) (fun z2 =>
    some (z2)
   ) (y0)
def f20.ins : Shape := ⟨[(0, .c (.int .i64)), (1, .c (.int .i64))], []⟩
def f20.outs : List Shape := [⟨[(0, .c (.int .i64))], []⟩]
def f20.S : FnSpec := ⟨f20.ins, f20.outs, [], fun x => f20 x.1 x.2.1⟩
def f20.E (fuel : Nat) : Env := ⟨tis, [], [], [(5, ⟨[(5, .c (.int .i64))], []⟩)], [], [], 0, [], fuel⟩
theorem f20.run : ∀ x, runFn (f20.E 100000000000000000000) Go.Proofs.Try.f20 ((Go.Proofs.Try.f20.body).getD .skip) f20.S x = f20.S.f x := by intro x; kernel_rfl
theorem f20.sound : Sound Go.Proofs.Try.prog 20 f20.S := sound_of_run (fun _ => f20.E 100000000000000000000) (by kernel_rfl) (by kernel_rfl) (by kernel_rfl) orders (fun _ => ⟨tis_ok, EqsOk.nil _, FnsOk.nil⟩) (fun _ => rfl) (by kernel_rfl) (by kernel_rfl) (fun x r h => (f20.run x).trans h)
/-! f23: adit/ents.Free -/
def f23 (a0 : List (Int × Int × Int × Int × Int × Int × Int × Int × Int × Int × Int)) (a1 : Int) : Option (List (Int × Int × Int × Int × Int × Int × Int × Int × Int × Int × Int) × Unit) :=
 Option.bind (f35 a0) fun y0 =>
  Option.bind (α := List (Int × Int × Int × Int × Int × Int × Int × Int × Int × Int × Int) × Unit ⊕ List (Int × Int × Int × Int × Int × Int × Int × Int × Int × Int × Int) × Unit) (
   bif Decidable.decide (a1 ≥ 0) then
    Option.bind (f36 a0) fun y4 =>
     bif Decidable.decide (a1 < (↑(List.length y4.fst) : Int)) then
      bif inRange a1 (List.length a0) then
       bif inRange a1 (List.length y0.fst) then
        some (Sum.inl (List.set y0.fst (Int.toNat a1) (0, (List.getD a0 (Int.toNat a1) (0, 0, 0, 0, 0, 0, 0, 0, 0, 0, 0)).snd.fst, 0, 0, 0, 0, 0, 0, 0, 0, 0), ()))
       else
        none
      else
       none
     else
      some (Sum.inl (y0.fst, ()))
   else
    some (Sum.inl (y0.fst, ()))
  ) fun y1 =>
   Sum.elim (fun y2 =>
    some ((y2.fst, ()))
   ) (fun z3 =>
    some (z3)
   ) (y1)
def f23.ins : Shape := ⟨[(0, .c (.row (.prod (.int .i64) (.prod (.int .i64) (.prod (.int .i64) (.prod (.int .i64) (.prod (.int .i64) (.prod (.int .i64) (.prod (.int .i64) (.prod (.int .i64) (.prod (.int .i64) (.prod (.int .i64) (.int .i64))))))))))))), (1, .c (.int .i64))], []⟩
def f23.outs : List Shape := [⟨[(0, .c (.own 0))], [(0, .arr (.prod (.int .i64) (.prod (.int .i64) (.prod (.int .i64) (.prod (.int .i64) (.prod (.int .i64) (.prod (.int .i64) (.prod (.int .i64) (.prod (.int .i64) (.prod (.int .i64) (.prod (.int .i64) (.int .i64))))))))))))]⟩]
def f23.S : FnSpec := ⟨f23.ins, f23.outs, [], fun x => f23 x.1 x.2.1⟩
def f23.E (fuel : Nat) : Env := ⟨tis, [(36, f36.S), (35, f35.S)], [], [(5, ⟨[(5, .c (.own 0))], [(0, .arr (.prod (.int .i64) (.prod (.int .i64) (.prod (.int .i64) (.prod (.int .i64) (.prod (.int .i64) (.prod (.int .i64) (.prod (.int .i64) (.prod (.int .i64) (.prod (.int .i64) (.prod (.int .i64) (.int .i64))))))))))))]⟩)], [], [], 0, [], fuel⟩
theorem f23.run : ∀ x, runFn (f23.E 100000000000000000000) Go.Proofs.Try.f23 ((Go.Proofs.Try.f23.body).getD .skip) f23.S x = f23.S.f x := by intro x; kernel_rfl
theorem f23.sound : Sound Go.Proofs.Try.prog 23 f23.S := sound_of_run (fun _ => f23.E 100000000000000000000) (by kernel_rfl) (by kernel_rfl) (by kernel_rfl) orders (fun _ => ⟨tis_ok, EqsOk.nil _, (FnsOk.cons f36.sound (FnsOk.cons f35.sound FnsOk.nil))⟩) (fun _ => rfl) (by kernel_rfl) (by kernel_rfl) (fun x r h => (f23.run x).trans h)
/-! f6: adit/aditlaw5.EntsFull -/
def f6 (a0 : List Int) (a1 : Int) : Option (Bool × Unit) :=
 Option.bind (f19) fun y0 =>
  bif !y0.fst then
   some ((Bool.false, ()))
  else
   it (X := List Int × Int × Int × List (Int × Int × Int × Int × Int × Int × Int × Int × Int × Int × Int) × Unit) (fun rec1 x2 =>
    bif Decidable.decide (x2.snd.snd.fst < 32) then
     Option.bind (α := List Int × Int × Int × Int × List (Int × Int × Int × Int × Int × Int × Int × Int × Int × Int × Int) × Unit ⊕ Bool × Unit) (
      bif Decidable.decide (x2.snd.snd.fst < (↑(List.length x2.fst) : Int)) then
       bif inRange x2.snd.snd.fst (List.length x2.fst) then
        Option.bind (f20 (List.getD x2.fst (Int.toNat x2.snd.snd.fst) 0) 4) fun y8 =>
         some (Sum.inl (x2.fst, x2.snd.fst, x2.snd.snd.fst, Go.IntKind.wrap Go.IntKind.i64 (1 + y8.fst), x2.snd.snd.snd.fst, ()))
       else
        none
      else
       some (Sum.inl (x2.fst, x2.snd.fst, x2.snd.snd.fst, 2, x2.snd.snd.snd.fst, ()))
     ) fun y3 =>
      Sum.elim (fun y4 =>
       Option.bind (f22 y4.snd.snd.snd.fst) fun y6 =>
        Option.bind (f21 y4.snd.snd.snd.snd.fst y6.fst y6.snd.fst y6.snd.snd.fst y6.snd.snd.snd.fst y6.snd.snd.snd.snd.fst y6.snd.snd.snd.snd.snd.fst y6.snd.snd.snd.snd.snd.snd.fst y6.snd.snd.snd.snd.snd.snd.snd.fst y6.snd.snd.snd.snd.snd.snd.snd.snd.fst y6.snd.snd.snd.snd.snd.snd.snd.snd.snd.fst y6.snd.snd.snd.snd.snd.snd.snd.snd.snd.snd.fst) fun y7 =>
         bif y7.snd.fst != 0 then
          some ((Bool.false, ()))
         else
          bif y7.fst != y4.snd.snd.fst then
           some ((Bool.false, ()))
          else
           bif inRange y4.snd.snd.fst (List.length y7.snd.snd.fst) then
            bif (List.getD y7.snd.snd.fst (Int.toNat y4.snd.snd.fst) (0, 0, 0, 0, 0, 0, 0, 0, 0, 0, 0)).fst != y4.snd.snd.snd.fst then
             some ((Bool.false, ()))
            else
             bif inRange y4.snd.snd.fst (List.length y7.snd.snd.fst) then
              bif (List.getD y7.snd.snd.fst (Int.toNat y4.snd.snd.fst) (0, 0, 0, 0, 0, 0, 0, 0, 0, 0, 0)).snd.fst != 1 then
               some ((Bool.false, ()))
              else
               bif inRange y4.snd.snd.fst (List.length y4.snd.snd.snd.snd.fst) then
                bif (List.getD y4.snd.snd.snd.snd.fst (Int.toNat y4.snd.snd.fst) (0, 0, 0, 0, 0, 0, 0, 0, 0, 0, 0)).fst != 0 then
                 some ((Bool.false, ()))
                else
                 rec1 (y4.fst, y4.snd.fst, Go.IntKind.wrap Go.IntKind.i64 (y4.snd.snd.fst + 1), y7.snd.snd.fst, ())
               else
                none
             else
              none
           else
            none
      ) (fun z5 =>
       some (z5)
      ) (y3)
    else
     Option.bind (f22 2) fun y9 =>
      Option.bind (f21 x2.snd.snd.snd.fst y9.fst y9.snd.fst y9.snd.snd.fst y9.snd.snd.snd.fst y9.snd.snd.snd.snd.fst y9.snd.snd.snd.snd.snd.fst y9.snd.snd.snd.snd.snd.snd.fst y9.snd.snd.snd.snd.snd.snd.snd.fst y9.snd.snd.snd.snd.snd.snd.snd.snd.fst y9.snd.snd.snd.snd.snd.snd.snd.snd.snd.fst y9.snd.snd.snd.snd.snd.snd.snd.snd.snd.snd.fst) fun y10 =>
       Option.bind (f21 x2.snd.snd.snd.fst 0 0 0 0 0 0 0 0 0 0 0) fun y11 =>
        Option.bind (f20 x2.snd.fst 32) fun y12 =>
         Option.bind (f23 x2.snd.snd.snd.fst y12.fst) fun y13 =>
          Option.bind (f22 3) fun y14 =>
           Option.bind (f21 y13.fst y14.fst y14.snd.fst y14.snd.snd.fst y14.snd.snd.snd.fst y14.snd.snd.snd.snd.fst y14.snd.snd.snd.snd.snd.fst y14.snd.snd.snd.snd.snd.snd.fst y14.snd.snd.snd.snd.snd.snd.snd.fst y14.snd.snd.snd.snd.snd.snd.snd.snd.fst y14.snd.snd.snd.snd.snd.snd.snd.snd.snd.fst y14.snd.snd.snd.snd.snd.snd.snd.snd.snd.snd.fst) fun y15 =>
            bif y10.snd.fst == 5 then
             bif y11.snd.fst == 3 then
              bif y15.snd.fst == 0 then
               bif y15.fst == y12.fst then
                bif inRange y12.fst (List.length y15.snd.snd.fst) then
                 some (((List.getD y15.snd.snd.fst (Int.toNat y12.fst) (0, 0, 0, 0, 0, 0, 0, 0, 0, 0, 0)).snd.fst == 2, ()))
                else
                 none
               else
                some ((Bool.false, ()))
              else
               some ((Bool.false, ()))
             else
              some ((Bool.false, ()))
            else
             some ((Bool.false, ()))
   ) (100000000000000000000) ((a0, a1, 0, List.replicate (Int.toNat 32) (0, 0, 0, 0, 0, 0, 0, 0, 0, 0, 0), ()))
def f6.ins : Shape := ⟨[(0, .c (.row (.int .i64))), (1, .c (.int .i64))], []⟩
def f6.outs : List Shape := [⟨[(0, .c (.bool))], []⟩]
def f6.S : FnSpec := ⟨f6.ins, f6.outs, [], fun x => f6 x.1 x.2.1⟩
def f6.E (fuel : Nat) : Env := ⟨tis, [(22, f22.S), (21, f21.S), (19, f19.S), (20, f20.S), (23, f23.S)], [], [(11, ⟨[(0, .c (.row (.int .i64))), (1, .c (.int .i64)), (5, .c (.own 0)), (6, .c (.int .i64)), (7, .c (.int .i64))], [(0, .arr (.prod (.int .i64) (.prod (.int .i64) (.prod (.int .i64) (.prod (.int .i64) (.prod (.int .i64) (.prod (.int .i64) (.prod (.int .i64) (.prod (.int .i64) (.prod (.int .i64) (.prod (.int .i64) (.int .i64))))))))))))]⟩)], [(6, ⟨[(0, .c (.row (.int .i64))), (1, .c (.int .i64)), (5, .c (.own 0)), (6, .c (.int .i64))], [(0, .arr (.prod (.int .i64) (.prod (.int .i64) (.prod (.int .i64) (.prod (.int .i64) (.prod (.int .i64) (.prod (.int .i64) (.prod (.int .i64) (.prod (.int .i64) (.prod (.int .i64) (.prod (.int .i64) (.int .i64))))))))))))]⟩)], [], 0, [], fuel⟩
theorem f6.run : ∀ x, runFn (f6.E 100000000000000000000) Go.Proofs.Try.f6 ((Go.Proofs.Try.f6.body).getD .skip) f6.S x = f6.S.f x := by intro x; kernel_rfl
theorem f6.sound : Sound Go.Proofs.Try.prog 6 f6.S := sound_of_run (fun _ => f6.E 100000000000000000000) (by kernel_rfl) (by kernel_rfl) (by kernel_rfl) orders (fun _ => ⟨tis_ok, EqsOk.nil _, (FnsOk.cons f22.sound (FnsOk.cons f21.sound (FnsOk.cons f19.sound (FnsOk.cons f20.sound (FnsOk.cons f23.sound FnsOk.nil)))))⟩) (fun _ => rfl) (by kernel_rfl) (by kernel_rfl) (fun x r h => (f6.run x).trans h)
/-! f37: adit/ents.Of$1 -/
def f37 (a0 : Int) (a1 : Int) (a2 : Int) (a3 : Int) (a4 : Int) (a5 : Int) (a6 : Int) (a7 : Int) (a8 : Int) (a9 : Int) (a10 : Int) (a11 : Int) (a12 : Int) : Option (Bool × Unit) :=
 bif a1 != 0 then
  some ((Go.IntKind.wrap Go.IntKind.i64 (a0 + Go.IntKind.wrap Go.IntKind.i64 (32 * a2)) == a12, ()))
 else
  some ((Bool.false, ()))
def f37.ins : Shape := ⟨[(0, .c (.int .i64)), (1, .agg [.int .i64, .int .i64, .int .i64, .int .i64, .int .i64, .int .i64, .int .i64, .int .i64, .int .i64, .int .i64, .int .i64]), (2, .c (.bptr (.int .i64)))], []⟩
def f37.outs : List Shape := [⟨[(0, .c (.bool))], []⟩]
def f37.S : FnSpec := ⟨f37.ins, f37.outs, [], fun x => f37 x.1 x.2.1 x.2.2.1 x.2.2.2.1 x.2.2.2.2.1 x.2.2.2.2.2.1 x.2.2.2.2.2.2.1 x.2.2.2.2.2.2.2.1 x.2.2.2.2.2.2.2.2.1 x.2.2.2.2.2.2.2.2.2.1 x.2.2.2.2.2.2.2.2.2.2.1 x.2.2.2.2.2.2.2.2.2.2.2.1 x.2.2.2.2.2.2.2.2.2.2.2.2.1⟩
def f37.E (fuel : Nat) : Env := ⟨tis, [], [], [], [], [], 0, [], fuel⟩
theorem f37.run : ∀ x, runFn (f37.E 100000000000000000000) Go.Proofs.Try.f37 ((Go.Proofs.Try.f37.body).getD .skip) f37.S x = f37.S.f x := by intro x; kernel_rfl
theorem f37.sound : Sound Go.Proofs.Try.prog 37 f37.S := sound_of_run (fun _ => f37.E 100000000000000000000) (by kernel_rfl) (by kernel_rfl) (by kernel_rfl) orders (fun _ => ⟨tis_ok, EqsOk.nil _, FnsOk.nil⟩) (fun _ => rfl) (by kernel_rfl) (by kernel_rfl) (fun x r h => (f37.run x).trans h)
/-! f33_1: adit/ents.find -/
def f33_1 (a0 : List (Int × Int × Int × Int × Int × Int × Int × Int × Int × Int × Int)) (a1 : Int) : Option (Int × Int × Unit) :=
 Option.bind (f36 a0) fun y0 =>
  it (X := List (Int × Int × Int × Int × Int × Int × Int × Int × Int × Int × Int) × Int × Int × Int × Unit) (fun rec1 x2 =>
   bif Decidable.decide (x2.snd.snd.fst < x2.snd.fst) then
    bif inRange x2.snd.snd.fst (List.length x2.fst) then
     Option.bind (f37 x2.snd.snd.fst (List.getD x2.fst (Int.toNat x2.snd.snd.fst) (0, 0, 0, 0, 0, 0, 0, 0, 0, 0, 0)).fst (List.getD x2.fst (Int.toNat x2.snd.snd.fst) (0, 0, 0, 0, 0, 0, 0, 0, 0, 0, 0)).snd.fst (List.getD x2.fst (Int.toNat x2.snd.snd.fst) (0, 0, 0, 0, 0, 0, 0, 0, 0, 0, 0)).snd.snd.fst (List.getD x2.fst (Int.toNat x2.snd.snd.fst) (0, 0, 0, 0, 0, 0, 0, 0, 0, 0, 0)).snd.snd.snd.fst (List.getD x2.fst (Int.toNat x2.snd.snd.fst) (0, 0, 0, 0, 0, 0, 0, 0, 0, 0, 0)).snd.snd.snd.snd.fst (List.getD x2.fst (Int.toNat x2.snd.snd.fst) (0, 0, 0, 0, 0, 0, 0, 0, 0, 0, 0)).snd.snd.snd.snd.snd.fst (List.getD x2.fst (Int.toNat x2.snd.snd.fst) (0, 0, 0, 0, 0, 0, 0, 0, 0, 0, 0)).snd.snd.snd.snd.snd.snd.fst (List.getD x2.fst (Int.toNat x2.snd.snd.fst) (0, 0, 0, 0, 0, 0, 0, 0, 0, 0, 0)).snd.snd.snd.snd.snd.snd.snd.fst (List.getD x2.fst (Int.toNat x2.snd.snd.fst) (0, 0, 0, 0, 0, 0, 0, 0, 0, 0, 0)).snd.snd.snd.snd.snd.snd.snd.snd.fst (List.getD x2.fst (Int.toNat x2.snd.snd.fst) (0, 0, 0, 0, 0, 0, 0, 0, 0, 0, 0)).snd.snd.snd.snd.snd.snd.snd.snd.snd.fst (List.getD x2.fst (Int.toNat x2.snd.snd.fst) (0, 0, 0, 0, 0, 0, 0, 0, 0, 0, 0)).snd.snd.snd.snd.snd.snd.snd.snd.snd.snd x2.snd.snd.snd.fst) fun y3 =>
      bif y3.fst then
       some ((x2.snd.snd.fst, x2.snd.snd.snd.fst, ()))
      else
       rec1 (x2.fst, x2.snd.fst, Go.IntKind.wrap Go.IntKind.i64 (x2.snd.snd.fst + 1), x2.snd.snd.snd.fst, ())
    else
     none
   else
    some ((-1, x2.snd.snd.snd.fst, ()))
  ) (100000000000000000000) ((y0.fst, (↑(List.length y0.fst) : Int), 0, a1, ()))
def f33_1.ins : Shape := ⟨[(0, .c (.row (.prod (.int .i64) (.prod (.int .i64) (.prod (.int .i64) (.prod (.int .i64) (.prod (.int .i64) (.prod (.int .i64) (.prod (.int .i64) (.prod (.int .i64) (.prod (.int .i64) (.prod (.int .i64) (.int .i64))))))))))))), (1, .c (.fn 37 [0]))], [(0, .box [.int .i64])]⟩
def f33_1.outs : List Shape := [⟨[(0, .c (.int .i64))], [(0, .box [.int .i64])]⟩]
def f33_1.S : FnSpec := ⟨f33_1.ins, f33_1.outs, [0], fun x => f33_1 x.1 x.2.1⟩
def f33_1.E (fuel : Nat) : Env := ⟨tis, [(36, f36.S), (37, f37.S)], [], [], [(3, ⟨[(1, .c (.fn 37 [0])), (8, .c (.row (.prod (.int .i64) (.prod (.int .i64) (.prod (.int .i64) (.prod (.int .i64) (.prod (.int .i64) (.prod (.int .i64) (.prod (.int .i64) (.prod (.int .i64) (.prod (.int .i64) (.prod (.int .i64) (.int .i64))))))))))))), (9, .c (.int .i64)), (10, .c (.int .i64))], [(0, .box [.int .i64])]⟩)], [], 1, [0], fuel⟩
theorem f33_1.run : ∀ x, runFn (f33_1.E 100000000000000000000) Go.Proofs.Try.f33 ((Go.Proofs.Try.f33.body).getD .skip) f33_1.S x = f33_1.S.f x := by intro x; kernel_rfl
theorem f33_1.sound : Sound Go.Proofs.Try.prog 33 f33_1.S := sound_of_run (fun _ => f33_1.E 100000000000000000000) (by kernel_rfl) (by kernel_rfl) (by kernel_rfl) orders (fun _ => ⟨tis_ok, EqsOk.nil _, (FnsOk.cons f36.sound (FnsOk.cons f37.sound FnsOk.nil))⟩) (fun _ => rfl) (by kernel_rfl) (by kernel_rfl) (fun x r h => (f33_1.run x).trans h)
/-! f24: adit/ents.Of -/
def f24 (a0 : List (Int × Int × Int × Int × Int × Int × Int × Int × Int × Int × Int)) (a1 : Int) : Option (Int × Unit) :=
 Option.bind (f33_1 a0 a1) fun y0 =>
  some ((y0.fst, ()))
def f24.ins : Shape := ⟨[(0, .c (.row (.prod (.int .i64) (.prod (.int .i64) (.prod (.int .i64) (.prod (.int .i64) (.prod (.int .i64) (.prod (.int .i64) (.prod (.int .i64) (.prod (.int .i64) (.prod (.int .i64) (.prod (.int .i64) (.int .i64))))))))))))), (1, .c (.int .i64))], []⟩
def f24.outs : List Shape := [⟨[(0, .c (.int .i64))], []⟩]
def f24.S : FnSpec := ⟨f24.ins, f24.outs, [], fun x => f24 x.1 x.2.1⟩
def f24.E (fuel : Nat) : Env := ⟨tis, [(33, f33_1.S)], [], [], [], [], 0, [], fuel⟩
theorem f24.run : ∀ x, runFn (f24.E 100000000000000000000) Go.Proofs.Try.f24 ((Go.Proofs.Try.f24.body).getD .skip) f24.S x = f24.S.f x := by intro x; kernel_rfl
theorem f24.sound : Sound Go.Proofs.Try.prog 24 f24.S := sound_of_run (fun _ => f24.E 100000000000000000000) (by kernel_rfl) (by kernel_rfl) (by kernel_rfl) orders (fun _ => ⟨tis_ok, EqsOk.nil _, (FnsOk.cons f33_1.sound FnsOk.nil)⟩) (fun _ => rfl) (by kernel_rfl) (by kernel_rfl) (fun x r h => (f24.run x).trans h)
/-! f7: adit/aditlaw5.EntsTurns -/
def f7 (a0 : List Int) : Option (Bool × Unit) :=
 Option.bind (f19) fun y0 =>
  bif !y0.fst then
   some ((Bool.false, ()))
  else
   it (X := List Int × Int × Int × List (Int × Int × Int × Int × Int × Int × Int × Int × Int × Int × Int) × Unit) (fun rec1 x2 =>
    bif Decidable.decide (x2.snd.snd.fst < (↑(List.length x2.fst) : Int)) then
     bif Decidable.decide (x2.snd.snd.fst < 80) then
      bif inRange x2.snd.snd.fst (List.length x2.fst) then
       bif Int.tmod (List.getD x2.fst (Int.toNat x2.snd.snd.fst) 0) 3 != 0 then
        bif inRange x2.snd.snd.fst (List.length x2.fst) then
         Option.bind (f20 (List.getD x2.fst (Int.toNat x2.snd.snd.fst) 0) 4) fun y3 =>
          Option.bind (f22 (Go.IntKind.wrap Go.IntKind.i64 (1 + y3.fst))) fun y4 =>
           Option.bind (f21 x2.snd.snd.snd.fst y4.fst y4.snd.fst y4.snd.snd.fst y4.snd.snd.snd.fst y4.snd.snd.snd.snd.fst y4.snd.snd.snd.snd.snd.fst y4.snd.snd.snd.snd.snd.snd.fst y4.snd.snd.snd.snd.snd.snd.snd.fst y4.snd.snd.snd.snd.snd.snd.snd.snd.fst y4.snd.snd.snd.snd.snd.snd.snd.snd.snd.fst y4.snd.snd.snd.snd.snd.snd.snd.snd.snd.snd.fst) fun y5 =>
            bif x2.snd.fst == 32 then
             bif y5.snd.fst != 5 then
              some ((Bool.false, ()))
             else
              rec1 (x2.fst, x2.snd.fst, Go.IntKind.wrap Go.IntKind.i64 (x2.snd.snd.fst + 1), x2.snd.snd.snd.fst, ())
            else
             bif y5.snd.fst != 0 then
              some ((Bool.false, ()))
             else
              it (X := List Int × Int × Int × Int × Int × Int × Bool × List (Int × Int × Int × Int × Int × Int × Int × Int × Int × Int × Int) × List (Int × Int × Int × Int × Int × Int × Int × Int × Int × Int × Int) × Unit) (fun rec6 x7 =>
               bif Decidable.decide (x7.snd.snd.snd.snd.fst < x7.snd.snd.snd.fst) then
                bif inRange x7.snd.snd.snd.snd.fst (List.length x7.snd.snd.snd.snd.snd.snd.snd.fst) then
                 bif (List.getD x7.snd.snd.snd.snd.snd.snd.snd.fst (Int.toNat x7.snd.snd.snd.snd.fst) (0, 0, 0, 0, 0, 0, 0, 0, 0, 0, 0)).fst == 0 then
                  some ((Bool.false, ()))
                 else
                  rec6 (x7.fst, x7.snd.fst, x7.snd.snd.fst, x7.snd.snd.snd.fst, Go.IntKind.wrap Go.IntKind.i64 (x7.snd.snd.snd.snd.fst + 1), x7.snd.snd.snd.snd.snd.fst, x7.snd.snd.snd.snd.snd.snd.fst, x7.snd.snd.snd.snd.snd.snd.snd.fst, x7.snd.snd.snd.snd.snd.snd.snd.snd.fst, ())
                else
                 none
               else
                Option.bind (f25 x7.snd.snd.snd.snd.snd.snd.snd.snd.fst x7.snd.snd.snd.fst) fun y8 =>
                 Option.bind (f24 x7.snd.snd.snd.snd.snd.snd.snd.snd.fst y8.fst) fun y9 =>
                  bif y9.fst != x7.snd.snd.snd.fst then
                   some ((Bool.false, ()))
                  else
                   rec1 (x7.fst, Go.IntKind.wrap Go.IntKind.i64 (x7.snd.fst + 1), Go.IntKind.wrap Go.IntKind.i64 (x7.snd.snd.fst + 1), x7.snd.snd.snd.snd.snd.snd.snd.snd.fst, ())
              ) (100000000000000000000) ((x2.fst, x2.snd.fst, x2.snd.snd.fst, y5.fst, 0, x2.snd.snd.fst, Decidable.decide (x2.snd.snd.fst < 80), x2.snd.snd.snd.fst, y5.snd.snd.fst, ()))
        else
         none
       else
        bif inRange x2.snd.snd.fst (List.length x2.fst) then
         Option.bind (f20 (Go.IntKind.wrap Go.IntKind.i64 (Int.tdiv (List.getD x2.fst (Int.toNat x2.snd.snd.fst) 0) 3)) 32) fun y10 =>
          Option.bind (f25 x2.snd.snd.snd.fst y10.fst) fun y11 =>
           Option.bind (α := List Int × Int × Int × Int × Int × Int × Bool × List (Int × Int × Int × Int × Int × Int × Int × Int × Int × Int × Int) × Unit ⊕ Bool × Unit) (
            bif Decidable.decide (y11.fst ≥ 0) then
             some (Sum.inl (x2.fst, Go.IntKind.wrap Go.IntKind.i64 (x2.snd.fst - 1), x2.snd.snd.fst, y10.fst, y11.fst, x2.snd.snd.fst, Decidable.decide (x2.snd.snd.fst < 80), x2.snd.snd.snd.fst, ()))
            else
             some (Sum.inl (x2.fst, x2.snd.fst, x2.snd.snd.fst, y10.fst, y11.fst, x2.snd.snd.fst, Decidable.decide (x2.snd.snd.fst < 80), x2.snd.snd.snd.fst, ()))
           ) fun y12 =>
            Sum.elim (fun y13 =>
             Option.bind (f23 y13.snd.snd.snd.snd.snd.snd.snd.fst y13.snd.snd.snd.fst) fun y15 =>
              Option.bind (f25 y15.fst y13.snd.snd.snd.fst) fun y16 =>
               bif y16.fst != -1 then
                some ((Bool.false, ()))
               else
                bif Decidable.decide (y13.snd.snd.snd.snd.fst ≥ 0) then
                 Option.bind (f24 y15.fst y13.snd.snd.snd.snd.fst) fun y17 =>
                  bif y17.fst != -1 then
                   some ((Bool.false, ()))
                  else
                   rec1 (y13.fst, y13.snd.fst, Go.IntKind.wrap Go.IntKind.i64 (y13.snd.snd.fst + 1), y15.fst, ())
                else
                 rec1 (y13.fst, y13.snd.fst, Go.IntKind.wrap Go.IntKind.i64 (y13.snd.snd.fst + 1), y15.fst, ())
            ) (fun z14 =>
             some (z14)
            ) (y12)
        else
         none
      else
       none
     else
      some ((Bool.true, ()))
    else
     some ((Bool.true, ()))
   ) (100000000000000000000) ((a0, 0, 0, List.replicate (Int.toNat 32) (0, 0, 0, 0, 0, 0, 0, 0, 0, 0, 0), ()))
def f7.ins : Shape := ⟨[(0, .c (.row (.int .i64)))], []⟩
def f7.outs : List Shape := [⟨[(0, .c (.bool))], []⟩]
def f7.S : FnSpec := ⟨f7.ins, f7.outs, [], fun x => f7 x.1⟩
def f7.E (fuel : Nat) : Env := ⟨tis, [(22, f22.S), (21, f21.S), (25, f25.S), (19, f19.S), (20, f20.S), (23, f23.S), (24, f24.S)], [], [(30, ⟨[(0, .c (.row (.int .i64))), (3, .c (.own 0)), (4, .c (.int .i64)), (5, .c (.int .i64)), (11, .c (.int .i64)), (12, .c (.int .i64)), (21, .c (.int .i64)), (22, .c (.bool))], [(0, .arr (.prod (.int .i64) (.prod (.int .i64) (.prod (.int .i64) (.prod (.int .i64) (.prod (.int .i64) (.prod (.int .i64) (.prod (.int .i64) (.prod (.int .i64) (.prod (.int .i64) (.prod (.int .i64) (.int .i64))))))))))))]⟩)], [(7, ⟨[(0, .c (.row (.int .i64))), (3, .c (.own 0)), (4, .c (.int .i64)), (5, .c (.int .i64))], [(0, .arr (.prod (.int .i64) (.prod (.int .i64) (.prod (.int .i64) (.prod (.int .i64) (.prod (.int .i64) (.prod (.int .i64) (.prod (.int .i64) (.prod (.int .i64) (.prod (.int .i64) (.prod (.int .i64) (.int .i64))))))))))))]⟩), (18, ⟨[(0, .c (.row (.int .i64))), (4, .c (.int .i64)), (5, .c (.int .i64)), (6, .c (.own 0)), (7, .c (.own 1)), (8, .c (.int .i64)), (10, .c (.int .i64)), (21, .c (.int .i64)), (22, .c (.bool))], [(0, .arr (.prod (.int .i64) (.prod (.int .i64) (.prod (.int .i64) (.prod (.int .i64) (.prod (.int .i64) (.prod (.int .i64) (.prod (.int .i64) (.prod (.int .i64) (.prod (.int .i64) (.prod (.int .i64) (.int .i64)))))))))))), (1, .arr (.prod (.int .i64) (.prod (.int .i64) (.prod (.int .i64) (.prod (.int .i64) (.prod (.int .i64) (.prod (.int .i64) (.prod (.int .i64) (.prod (.int .i64) (.prod (.int .i64) (.prod (.int .i64) (.int .i64))))))))))))]⟩)], [], 0, [], fuel⟩
theorem f7.run : ∀ x, runFn (f7.E 100000000000000000000) Go.Proofs.Try.f7 ((Go.Proofs.Try.f7.body).getD .skip) f7.S x = f7.S.f x := by intro x; kernel_rfl
theorem f7.sound : Sound Go.Proofs.Try.prog 7 f7.S := sound_of_run (fun _ => f7.E 100000000000000000000) (by kernel_rfl) (by kernel_rfl) (by kernel_rfl) orders (fun _ => ⟨tis_ok, EqsOk.nil _, (FnsOk.cons f22.sound (FnsOk.cons f21.sound (FnsOk.cons f25.sound (FnsOk.cons f19.sound (FnsOk.cons f20.sound (FnsOk.cons f23.sound (FnsOk.cons f24.sound FnsOk.nil)))))))⟩) (fun _ => rfl) (by kernel_rfl) (by kernel_rfl) (fun x r h => (f7.run x).trans h)
/-! f38: slices.Clone[[]adit/api.Span,adit/api.Span] -/
def f38 (a0 : List (Int × Int × Int × Int)) : Option (List (Int × Int × Int × Int) × Unit) := cloneF (.prod (.int .i64) (.prod (.int .i64) (.prod (.int .i64) (.int .i64)))) 32 a0
def f38.S : FnSpec := ⟨cloneIns (.prod (.int .i64) (.prod (.int .i64) (.prod (.int .i64) (.int .i64)))), cloneOuts (.prod (.int .i64) (.prod (.int .i64) (.prod (.int .i64) (.int .i64)))), [], fun x => f38 x.1⟩
def f38.E : Env := ⟨tis, [], [], [], [], [], 0, [], 1⟩
theorem f38.sound : Sound Go.Proofs.Try.prog 38 f38.S := clone_sound (fn := Go.Proofs.Try.f38) (t := 49) (q := 67) (u := 4) (bytes := 32) (i := ty49) f38.E (by kernel_rfl) (by kernel_rfl) (by kernel_rfl) orders (by kernel_rfl) ⟨tis_ok, EqsOk.nil _, FnsOk.nil⟩ rfl (by kernel_rfl) (by kernel_rfl) (by intro l A K; kernel_rfl) (by kernel_rfl) (by intro l; kernel_rfl)
/-! f43: adit/table.last$1 -/
def f43 (a0 : Int) (a1 : Int) (a2 : Int) (a3 : Int) : Option (Bool × Unit) :=
 some ((Bool.true, ()))
def f43.ins : Shape := ⟨[(0, .agg [.int .i64, .int .i64, .int .i64, .int .i64])], []⟩
def f43.outs : List Shape := [⟨[(0, .c (.bool))], []⟩]
def f43.S : FnSpec := ⟨f43.ins, f43.outs, [], fun x => f43 x.1 x.2.1 x.2.2.1 x.2.2.2.1⟩
def f43.E (fuel : Nat) : Env := ⟨tis, [], [], [], [], [], 0, [], fuel⟩
theorem f43.run : ∀ x, runFn (f43.E 100000000000000000000) Go.Proofs.Try.f43 ((Go.Proofs.Try.f43.body).getD .skip) f43.S x = f43.S.f x := by intro x; kernel_rfl
theorem f43.sound : Sound Go.Proofs.Try.prog 43 f43.S := sound_of_run (fun _ => f43.E 100000000000000000000) (by kernel_rfl) (by kernel_rfl) (by kernel_rfl) orders (fun _ => ⟨tis_ok, EqsOk.nil _, FnsOk.nil⟩) (fun _ => rfl) (by kernel_rfl) (by kernel_rfl) (fun x r h => (f43.run x).trans h)
/-! f40: adit/table.find -/
def f40 (a0 : List (Int × Int × Int × Int)) (a1 : Int) : Option (Int × Unit) :=
 it (X := List (Int × Int × Int × Int) × Int × Int × Unit) (fun rec0 x1 =>
  bif Decidable.decide (x1.snd.snd.fst ≥ 0) then
   bif inRange x1.snd.snd.fst (List.length x1.fst) then
    bif (List.getD x1.fst (Int.toNat x1.snd.snd.fst) (0, 0, 0, 0)).fst == x1.snd.fst then
     bif inRange x1.snd.snd.fst (List.length x1.fst) then
      Option.bind (f43 (List.getD x1.fst (Int.toNat x1.snd.snd.fst) (0, 0, 0, 0)).fst (List.getD x1.fst (Int.toNat x1.snd.snd.fst) (0, 0, 0, 0)).snd.fst (List.getD x1.fst (Int.toNat x1.snd.snd.fst) (0, 0, 0, 0)).snd.snd.fst (List.getD x1.fst (Int.toNat x1.snd.snd.fst) (0, 0, 0, 0)).snd.snd.snd) fun y2 =>
       bif y2.fst then
        some ((x1.snd.snd.fst, ()))
       else
        rec0 (x1.fst, x1.snd.fst, Go.IntKind.wrap Go.IntKind.i64 (x1.snd.snd.fst - 1), ())
     else
      none
    else
     rec0 (x1.fst, x1.snd.fst, Go.IntKind.wrap Go.IntKind.i64 (x1.snd.snd.fst - 1), ())
   else
    none
  else
   some ((-1, ()))
 ) (100000000000000000000) ((a0, a1, Go.IntKind.wrap Go.IntKind.i64 ((↑(List.length a0) : Int) - 1), ()))
def f40.ins : Shape := ⟨[(0, .c (.row (.prod (.int .i64) (.prod (.int .i64) (.prod (.int .i64) (.int .i64)))))), (1, .c (.int .i64)), (2, .c (.fn 43 []))], []⟩
def f40.outs : List Shape := [⟨[(0, .c (.int .i64))], []⟩]
def f40.S : FnSpec := ⟨f40.ins, f40.outs, [], fun x => f40 x.1 x.2.1⟩
def f40.E (fuel : Nat) : Env := ⟨tis, [(43, f43.S)], [], [], [(3, ⟨[(0, .c (.row (.prod (.int .i64) (.prod (.int .i64) (.prod (.int .i64) (.int .i64)))))), (1, .c (.int .i64)), (2, .c (.fn 43 [])), (7, .c (.int .i64))], []⟩)], [], 0, [], fuel⟩
theorem f40.run : ∀ x, runFn (f40.E 100000000000000000000) Go.Proofs.Try.f40 ((Go.Proofs.Try.f40.body).getD .skip) f40.S x = f40.S.f x := by intro x; kernel_rfl
theorem f40.sound : Sound Go.Proofs.Try.prog 40 f40.S := sound_of_run (fun _ => f40.E 100000000000000000000) (by kernel_rfl) (by kernel_rfl) (by kernel_rfl) orders (fun _ => ⟨tis_ok, EqsOk.nil _, (FnsOk.cons f43.sound FnsOk.nil)⟩) (fun _ => rfl) (by kernel_rfl) (by kernel_rfl) (fun x r h => (f40.run x).trans h)
/-! f39: adit/table.last -/
def f39 (a0 : List (Int × Int × Int × Int)) (a1 : Int) : Option (Int × Unit) :=
 Option.bind (f40 a0 a1) fun y0 =>
  some ((y0.fst, ()))
def f39.ins : Shape := ⟨[(0, .c (.row (.prod (.int .i64) (.prod (.int .i64) (.prod (.int .i64) (.int .i64)))))), (1, .c (.int .i64))], []⟩
def f39.outs : List Shape := [⟨[(0, .c (.int .i64))], []⟩]
def f39.S : FnSpec := ⟨f39.ins, f39.outs, [], fun x => f39 x.1 x.2.1⟩
def f39.E (fuel : Nat) : Env := ⟨tis, [(40, f40.S)], [], [], [], [], 0, [], fuel⟩
theorem f39.run : ∀ x, runFn (f39.E 100000000000000000000) Go.Proofs.Try.f39 ((Go.Proofs.Try.f39.body).getD .skip) f39.S x = f39.S.f x := by intro x; kernel_rfl
theorem f39.sound : Sound Go.Proofs.Try.prog 39 f39.S := sound_of_run (fun _ => f39.E 100000000000000000000) (by kernel_rfl) (by kernel_rfl) (by kernel_rfl) orders (fun _ => ⟨tis_ok, EqsOk.nil _, (FnsOk.cons f40.sound FnsOk.nil)⟩) (fun _ => rfl) (by kernel_rfl) (by kernel_rfl) (fun x r h => (f39.run x).trans h)
/-! f28: adit/table.Add -/
def f28 (a0 : List (Int × Int × Int × Int)) (a1 : Int) (a2 : Int) (a3 : Int) (a4 : Int) (a5 : Int) : Option (Int × List (Int × Int × Int × Int) × Unit) :=
 Option.bind (α := List (Int × Int × Int × Int) × Bool × Int × Int × Int × Int × Int × Unit ⊕ Int × List (Int × Int × Int × Int) × Unit) (
  bif a1 != 2 then
   some (Sum.inl (a0, a1 != 3, a1, a2, a3, a4, a5, ()))
  else
   some (Sum.inl (a0, Bool.false, a1, a2, a3, a4, a5, ()))
 ) fun y0 =>
  Sum.elim (fun y1 =>
   bif y1.snd.fst then
    some ((3, [], ()))
   else
    bif Decidable.decide (y1.snd.snd.snd.snd.fst < 0) then
     some ((16, [], ()))
    else
     bif Decidable.decide (y1.snd.snd.snd.snd.fst ≥ 4) then
      some ((16, [], ()))
     else
      bif Decidable.decide (y1.snd.snd.snd.snd.snd.fst < 1) then
       some ((1, [], ()))
      else
       Option.bind (f38 y1.fst) fun y3 =>
        Option.bind (f39 y1.fst y1.snd.snd.snd.snd.fst) fun y4 =>
         bif y1.snd.snd.fst == 2 then
          Option.bind (α := Int × Int × Int × Int × Int × List (Int × Int × Int × Int) × Unit ⊕ Int × List (Int × Int × Int × Int) × Unit) (
           bif Decidable.decide (y4.fst ≥ 0) then
            bif inRange y4.fst (List.length y1.fst) then
             bif (List.getD y1.fst (Int.toNat y4.fst) (0, 0, 0, 0)).snd.snd.fst == 0 then
              some (Sum.inr (16, [], ()))
             else
              bif inRange y4.fst (List.length y1.fst) then
               bif Decidable.decide ((List.getD y1.fst (Int.toNat y4.fst) (0, 0, 0, 0)).snd.snd.fst ≥ y1.snd.snd.snd.snd.snd.fst) then
                some (Sum.inr (16, [], ()))
               else
                some (Sum.inl (y1.snd.snd.fst, y1.snd.snd.snd.fst, y1.snd.snd.snd.snd.fst, y1.snd.snd.snd.snd.snd.fst, y1.snd.snd.snd.snd.snd.snd.fst, y3.fst, ()))
              else
               none
            else
             none
           else
            some (Sum.inl (y1.snd.snd.fst, y1.snd.snd.snd.fst, y1.snd.snd.snd.snd.fst, y1.snd.snd.snd.snd.snd.fst, y1.snd.snd.snd.snd.snd.snd.fst, y3.fst, ()))
          ) fun y5 =>
           Sum.elim (fun y6 =>
            bif Decidable.decide (List.length y6.snd.snd.snd.snd.snd.fst + List.length [(y6.snd.snd.fst, y6.snd.snd.snd.fst, 0, 0)] ≤ limit 32) then
             some ((0, y6.snd.snd.snd.snd.snd.fst ++ [(y6.snd.snd.fst, y6.snd.snd.snd.fst, 0, 0)], ()))
            else
             none
           ) (fun z7 =>
            some (z7)
           ) (y5)
         else
          Option.bind (α := List (Int × Int × Int × Int) × Int × Bool × Int × Int × Int × Int × Int × List (Int × Int × Int × Int) × Unit ⊕ Int × List (Int × Int × Int × Int) × Unit) (
           bif y1.snd.snd.snd.snd.fst == 0 then
            some (Sum.inl (y1.fst, y4.fst, Bool.true, y1.snd.snd.fst, y1.snd.snd.snd.fst, y1.snd.snd.snd.snd.fst, y1.snd.snd.snd.snd.snd.fst, y1.snd.snd.snd.snd.snd.snd.fst, y3.fst, ()))
           else
            bif Decidable.decide (y4.fst < 0) then
             some (Sum.inl (y1.fst, y4.fst, Bool.true, y1.snd.snd.fst, y1.snd.snd.snd.fst, y1.snd.snd.snd.snd.fst, y1.snd.snd.snd.snd.snd.fst, y1.snd.snd.snd.snd.snd.snd.fst, y3.fst, ()))
            else
             bif inRange y4.fst (List.length y1.fst) then
              bif (List.getD y1.fst (Int.toNat y4.fst) (0, 0, 0, 0)).snd.snd.fst != 0 then
               some (Sum.inl (y1.fst, y4.fst, Bool.true, y1.snd.snd.fst, y1.snd.snd.snd.fst, y1.snd.snd.snd.snd.fst, y1.snd.snd.snd.snd.snd.fst, y1.snd.snd.snd.snd.snd.snd.fst, y3.fst, ()))
              else
               bif inRange y4.fst (List.length y1.fst) then
                some (Sum.inl (y1.fst, y4.fst, Decidable.decide ((List.getD y1.fst (Int.toNat y4.fst) (0, 0, 0, 0)).snd.fst ≥ y1.snd.snd.snd.snd.snd.fst), y1.snd.snd.fst, y1.snd.snd.snd.fst, y1.snd.snd.snd.snd.fst, y1.snd.snd.snd.snd.snd.fst, y1.snd.snd.snd.snd.snd.snd.fst, y3.fst, ()))
               else
                none
             else
              none
          ) fun y8 =>
           Sum.elim (fun y9 =>
            bif y9.snd.snd.fst then
             some ((16, [], ()))
            else
             bif inRange y9.snd.fst (List.length y9.fst) then
              bif Decidable.decide (y9.snd.snd.snd.snd.snd.snd.snd.fst < (List.getD y9.fst (Int.toNat y9.snd.fst) (0, 0, 0, 0)).snd.fst) then
               some ((1, [], ()))
              else
               bif Decidable.decide (y9.snd.snd.snd.snd.snd.snd.snd.fst > y9.snd.snd.snd.snd.snd.snd.fst) then
                some ((1, [], ()))
               else
                bif inRange y9.snd.fst (List.length y9.snd.snd.snd.snd.snd.snd.snd.snd.fst) then
                 bif inRange y9.snd.fst (List.length (List.set y9.snd.snd.snd.snd.snd.snd.snd.snd.fst (Int.toNat y9.snd.fst) ((List.getD y9.snd.snd.snd.snd.snd.snd.snd.snd.fst (Int.toNat y9.snd.fst) (0, 0, 0, 0)).fst, (List.getD y9.snd.snd.snd.snd.snd.snd.snd.snd.fst (Int.toNat y9.snd.fst) (0, 0, 0, 0)).snd.fst, y9.snd.snd.snd.snd.snd.snd.fst, (List.getD y9.snd.snd.snd.snd.snd.snd.snd.snd.fst (Int.toNat y9.snd.fst) (0, 0, 0, 0)).snd.snd.snd))) then
                  some ((0, List.set (List.set y9.snd.snd.snd.snd.snd.snd.snd.snd.fst (Int.toNat y9.snd.fst) ((List.getD y9.snd.snd.snd.snd.snd.snd.snd.snd.fst (Int.toNat y9.snd.fst) (0, 0, 0, 0)).fst, (List.getD y9.snd.snd.snd.snd.snd.snd.snd.snd.fst (Int.toNat y9.snd.fst) (0, 0, 0, 0)).snd.fst, y9.snd.snd.snd.snd.snd.snd.fst, (List.getD y9.snd.snd.snd.snd.snd.snd.snd.snd.fst (Int.toNat y9.snd.fst) (0, 0, 0, 0)).snd.snd.snd)) (Int.toNat y9.snd.fst) ((List.getD (List.set y9.snd.snd.snd.snd.snd.snd.snd.snd.fst (Int.toNat y9.snd.fst) ((List.getD y9.snd.snd.snd.snd.snd.snd.snd.snd.fst (Int.toNat y9.snd.fst) (0, 0, 0, 0)).fst, (List.getD y9.snd.snd.snd.snd.snd.snd.snd.snd.fst (Int.toNat y9.snd.fst) (0, 0, 0, 0)).snd.fst, y9.snd.snd.snd.snd.snd.snd.fst, (List.getD y9.snd.snd.snd.snd.snd.snd.snd.snd.fst (Int.toNat y9.snd.fst) (0, 0, 0, 0)).snd.snd.snd)) (Int.toNat y9.snd.fst) (0, 0, 0, 0)).fst, (List.getD (List.set y9.snd.snd.snd.snd.snd.snd.snd.snd.fst (Int.toNat y9.snd.fst) ((List.getD y9.snd.snd.snd.snd.snd.snd.snd.snd.fst (Int.toNat y9.snd.fst) (0, 0, 0, 0)).fst, (List.getD y9.snd.snd.snd.snd.snd.snd.snd.snd.fst (Int.toNat y9.snd.fst) (0, 0, 0, 0)).snd.fst, y9.snd.snd.snd.snd.snd.snd.fst, (List.getD y9.snd.snd.snd.snd.snd.snd.snd.snd.fst (Int.toNat y9.snd.fst) (0, 0, 0, 0)).snd.snd.snd)) (Int.toNat y9.snd.fst) (0, 0, 0, 0)).snd.fst, (List.getD (List.set y9.snd.snd.snd.snd.snd.snd.snd.snd.fst (Int.toNat y9.snd.fst) ((List.getD y9.snd.snd.snd.snd.snd.snd.snd.snd.fst (Int.toNat y9.snd.fst) (0, 0, 0, 0)).fst, (List.getD y9.snd.snd.snd.snd.snd.snd.snd.snd.fst (Int.toNat y9.snd.fst) (0, 0, 0, 0)).snd.fst, y9.snd.snd.snd.snd.snd.snd.fst, (List.getD y9.snd.snd.snd.snd.snd.snd.snd.snd.fst (Int.toNat y9.snd.fst) (0, 0, 0, 0)).snd.snd.snd)) (Int.toNat y9.snd.fst) (0, 0, 0, 0)).snd.snd.fst, y9.snd.snd.snd.snd.snd.snd.snd.fst), ()))
                 else
                  none
                else
                 none
             else
              none
           ) (fun z10 =>
            some (z10)
           ) (y8)
  ) (fun z2 =>
   some (z2)
  ) (y0)
def f28.ins : Shape := ⟨[(0, .c (.row (.prod (.int .i64) (.prod (.int .i64) (.prod (.int .i64) (.int .i64)))))), (1, .agg [.int .i64, .int .i64, .int .i64, .int .i64, .int .i64])], []⟩
def f28.outs : List Shape := [⟨[(0, .c (.own 0)), (1, .c (.int .i64))], [(0, .arr (.prod (.int .i64) (.prod (.int .i64) (.prod (.int .i64) (.int .i64)))))]⟩]
def f28.S : FnSpec := ⟨f28.ins, f28.outs, [], fun x => f28 x.1 x.2.1 x.2.2.1 x.2.2.2.1 x.2.2.2.2.1 x.2.2.2.2.2.1⟩
def f28.E (fuel : Nat) : Env := ⟨tis, [(38, f38.S), (39, f39.S)], [], [(3, ⟨[(0, .c (.row (.prod (.int .i64) (.prod (.int .i64) (.prod (.int .i64) (.int .i64)))))), (3, .c (.ptr 0 0)), (8, .c (.bool))], [(0, .box [.int .i64, .int .i64, .int .i64, .int .i64, .int .i64])]⟩), (13, ⟨[(3, .c (.ptr 0 0)), (6, .c (.own 1))], [(0, .box [.int .i64, .int .i64, .int .i64, .int .i64, .int .i64]), (1, .arr (.prod (.int .i64) (.prod (.int .i64) (.prod (.int .i64) (.int .i64)))))]⟩), (15, ⟨[(0, .c (.row (.prod (.int .i64) (.prod (.int .i64) (.prod (.int .i64) (.int .i64)))))), (3, .c (.ptr 0 0)), (6, .c (.own 1)), (7, .c (.int .i64)), (67, .c (.bool))], [(0, .box [.int .i64, .int .i64, .int .i64, .int .i64, .int .i64]), (1, .arr (.prod (.int .i64) (.prod (.int .i64) (.prod (.int .i64) (.int .i64)))))]⟩)], [], [], 0, [], fuel⟩
theorem f28.run : ∀ x, runFn (f28.E 100000000000000000000) Go.Proofs.Try.f28 ((Go.Proofs.Try.f28.body).getD .skip) f28.S x = f28.S.f x := by intro x; kernel_rfl
theorem f28.sound : Sound Go.Proofs.Try.prog 28 f28.S := sound_of_run (fun _ => f28.E 100000000000000000000) (by kernel_rfl) (by kernel_rfl) (by kernel_rfl) orders (fun _ => ⟨tis_ok, EqsOk.nil _, (FnsOk.cons f38.sound (FnsOk.cons f39.sound FnsOk.nil))⟩) (fun _ => rfl) (by kernel_rfl) (by kernel_rfl) (fun x r h => (f28.run x).trans h)
/-! f41: adit/table.How$1 -/
def f41 (a0 : Int) (a1 : Int) (a2 : Int) (a3 : Int) (a4 : Int) : Option (Bool × Unit) :=
 some ((Decidable.decide (a1 ≤ a4), ()))
def f41.ins : Shape := ⟨[(0, .agg [.int .i64, .int .i64, .int .i64, .int .i64]), (1, .c (.bptr (.int .i64)))], []⟩
def f41.outs : List Shape := [⟨[(0, .c (.bool))], []⟩]
def f41.S : FnSpec := ⟨f41.ins, f41.outs, [], fun x => f41 x.1 x.2.1 x.2.2.1 x.2.2.2.1 x.2.2.2.2.1⟩
def f41.E (fuel : Nat) : Env := ⟨tis, [], [], [], [], [], 0, [], fuel⟩
theorem f41.run : ∀ x, runFn (f41.E 100000000000000000000) Go.Proofs.Try.f41 ((Go.Proofs.Try.f41.body).getD .skip) f41.S x = f41.S.f x := by intro x; kernel_rfl
theorem f41.sound : Sound Go.Proofs.Try.prog 41 f41.S := sound_of_run (fun _ => f41.E 100000000000000000000) (by kernel_rfl) (by kernel_rfl) (by kernel_rfl) orders (fun _ => ⟨tis_ok, EqsOk.nil _, FnsOk.nil⟩) (fun _ => rfl) (by kernel_rfl) (by kernel_rfl) (fun x r h => (f41.run x).trans h)
/-! f40_1: adit/table.find -/
def f40_1 (a0 : List (Int × Int × Int × Int)) (a1 : Int) (a2 : Int) : Option (Int × Int × Unit) :=
 it (X := List (Int × Int × Int × Int) × Int × Int × Int × Unit) (fun rec0 x1 =>
  bif Decidable.decide (x1.snd.snd.fst ≥ 0) then
   bif inRange x1.snd.snd.fst (List.length x1.fst) then
    bif (List.getD x1.fst (Int.toNat x1.snd.snd.fst) (0, 0, 0, 0)).fst == x1.snd.fst then
     bif inRange x1.snd.snd.fst (List.length x1.fst) then
      Option.bind (f41 (List.getD x1.fst (Int.toNat x1.snd.snd.fst) (0, 0, 0, 0)).fst (List.getD x1.fst (Int.toNat x1.snd.snd.fst) (0, 0, 0, 0)).snd.fst (List.getD x1.fst (Int.toNat x1.snd.snd.fst) (0, 0, 0, 0)).snd.snd.fst (List.getD x1.fst (Int.toNat x1.snd.snd.fst) (0, 0, 0, 0)).snd.snd.snd x1.snd.snd.snd.fst) fun y2 =>
       bif y2.fst then
        some ((x1.snd.snd.fst, x1.snd.snd.snd.fst, ()))
       else
        rec0 (x1.fst, x1.snd.fst, Go.IntKind.wrap Go.IntKind.i64 (x1.snd.snd.fst - 1), x1.snd.snd.snd.fst, ())
     else
      none
    else
     rec0 (x1.fst, x1.snd.fst, Go.IntKind.wrap Go.IntKind.i64 (x1.snd.snd.fst - 1), x1.snd.snd.snd.fst, ())
   else
    none
  else
   some ((-1, x1.snd.snd.snd.fst, ()))
 ) (100000000000000000000) ((a0, a1, Go.IntKind.wrap Go.IntKind.i64 ((↑(List.length a0) : Int) - 1), a2, ()))
def f40_1.ins : Shape := ⟨[(0, .c (.row (.prod (.int .i64) (.prod (.int .i64) (.prod (.int .i64) (.int .i64)))))), (1, .c (.int .i64)), (2, .c (.fn 41 [0]))], [(0, .box [.int .i64])]⟩
def f40_1.outs : List Shape := [⟨[(0, .c (.int .i64))], [(0, .box [.int .i64])]⟩]
def f40_1.S : FnSpec := ⟨f40_1.ins, f40_1.outs, [0], fun x => f40_1 x.1 x.2.1 x.2.2.1⟩
def f40_1.E (fuel : Nat) : Env := ⟨tis, [(41, f41.S)], [], [], [(3, ⟨[(0, .c (.row (.prod (.int .i64) (.prod (.int .i64) (.prod (.int .i64) (.int .i64)))))), (1, .c (.int .i64)), (2, .c (.fn 41 [0])), (7, .c (.int .i64))], [(0, .box [.int .i64])]⟩)], [], 1, [0], fuel⟩
theorem f40_1.run : ∀ x, runFn (f40_1.E 100000000000000000000) Go.Proofs.Try.f40 ((Go.Proofs.Try.f40.body).getD .skip) f40_1.S x = f40_1.S.f x := by intro x; kernel_rfl
theorem f40_1.sound : Sound Go.Proofs.Try.prog 40 f40_1.S := sound_of_run (fun _ => f40_1.E 100000000000000000000) (by kernel_rfl) (by kernel_rfl) (by kernel_rfl) orders (fun _ => ⟨tis_ok, EqsOk.nil _, (FnsOk.cons f41.sound FnsOk.nil)⟩) (fun _ => rfl) (by kernel_rfl) (by kernel_rfl) (fun x r h => (f40_1.run x).trans h)
/-! f30: adit/table.How -/
def f30 (a0 : List (Int × Int × Int × Int)) (a1 : Int) (a2 : Int) : Option (Int × Bool × Unit) :=
 Option.bind (f40_1 a0 a1 a2) fun y0 =>
  Option.bind (α := Unit ⊕ Int × Bool × Unit) (
   bif Decidable.decide (y0.fst < 0) then
    some (Sum.inr (0, Bool.false, ()))
   else
    bif inRange y0.fst (List.length a0) then
     bif (List.getD a0 (Int.toNat y0.fst) (0, 0, 0, 0)).snd.fst == y0.snd.fst then
      bif Decidable.decide ((0 : Int) ≤ 0 ∧ 0 ≤ y0.fst ∧ y0.fst ≤ (↑(List.length a0) : Int)) then
       Option.bind (f39 (List.drop (Int.toNat 0) (List.take (Int.toNat y0.fst) a0)) a1) fun y4 =>
        bif Decidable.decide (y4.fst ≥ 0) then
         some (Sum.inr (2, Bool.true, ()))
        else
         some (Sum.inr (0, Bool.true, ()))
      else
       none
     else
      bif inRange y0.fst (List.length a0) then
       bif (List.getD a0 (Int.toNat y0.fst) (0, 0, 0, 0)).snd.snd.fst == 0 then
        some (Sum.inl ())
       else
        bif inRange y0.fst (List.length a0) then
         bif Decidable.decide (y0.snd.fst ≤ (List.getD a0 (Int.toNat y0.fst) (0, 0, 0, 0)).snd.snd.fst) then
          some (Sum.inl ())
         else
          some (Sum.inr (2, Bool.false, ()))
        else
         none
      else
       none
    else
     none
  ) fun y1 =>
   Sum.elim (fun y2 =>
    some ((1, Bool.false, ()))
   ) (fun z3 =>
    some (z3)
   ) (y1)
def f30.ins : Shape := ⟨[(0, .c (.row (.prod (.int .i64) (.prod (.int .i64) (.prod (.int .i64) (.int .i64)))))), (1, .c (.int .i64)), (2, .c (.int .i64))], []⟩
def f30.outs : List Shape := [⟨[(0, .c (.int .i64)), (1, .c (.bool))], []⟩]
def f30.S : FnSpec := ⟨f30.ins, f30.outs, [], fun x => f30 x.1 x.2.1 x.2.2.1⟩
def f30.E (fuel : Nat) : Env := ⟨tis, [(39, f39.S), (40, f40_1.S)], [], [(11, ⟨[], []⟩)], [], [], 0, [], fuel⟩
theorem f30.run : ∀ x, runFn (f30.E 100000000000000000000) Go.Proofs.Try.f30 ((Go.Proofs.Try.f30.body).getD .skip) f30.S x = f30.S.f x := by intro x; kernel_rfl
theorem f30.sound : Sound Go.Proofs.Try.prog 30 f30.S := sound_of_run (fun _ => f30.E 100000000000000000000) (by kernel_rfl) (by kernel_rfl) (by kernel_rfl) orders (fun _ => ⟨tis_ok, EqsOk.nil _, (FnsOk.cons f39.sound (FnsOk.cons f40_1.sound FnsOk.nil))⟩) (fun _ => rfl) (by kernel_rfl) (by kernel_rfl) (fun x r h => (f30.run x).trans h)
/-! f26: adit/aditlaw16.known -/
def f26 : Option (Bool × Unit) :=
 Option.bind (f28 [] 2 0 1 5 0) fun y0 =>
  Option.bind (f30 y0.snd.fst 1 5) fun y1 =>
   Option.bind (f30 y0.snd.fst 1 6) fun y2 =>
    bif y0.fst == 0 then
     bif y1.fst == 0 then
      bif y1.snd.fst then
       bif y2.fst == 1 then
        some ((!y2.snd.fst, ()))
       else
        some ((Bool.false, ()))
      else
       some ((Bool.false, ()))
     else
      some ((Bool.false, ()))
    else
     some ((Bool.false, ()))
def f26.ins : Shape := ⟨[], []⟩
def f26.outs : List Shape := [⟨[(0, .c (.bool))], []⟩]
def f26.S : FnSpec := ⟨f26.ins, f26.outs, [], fun _ => f26⟩
def f26.E (fuel : Nat) : Env := ⟨tis, [(28, f28.S), (30, f30.S)], [], [], [], [], 0, [], fuel⟩
theorem f26.run : ∀ x, runFn (f26.E 100000000000000000000) Go.Proofs.Try.f26 ((Go.Proofs.Try.f26.body).getD .skip) f26.S x = f26.S.f x := by intro x; kernel_rfl
theorem f26.sound : Sound Go.Proofs.Try.prog 26 f26.S := sound_of_run (fun _ => f26.E 100000000000000000000) (by kernel_rfl) (by kernel_rfl) (by kernel_rfl) orders (fun _ => ⟨tis_ok, EqsOk.nil _, (FnsOk.cons f28.sound (FnsOk.cons f30.sound FnsOk.nil))⟩) (fun _ => rfl) (by kernel_rfl) (by kernel_rfl) (fun x r h => (f26.run x).trans h)
/-! f27: adit/aditlaw16.within -/
def f27 (a0 : Int) (a1 : Int) : Option (Int × Unit) :=
 bif Decidable.decide (a1 = 0) then
  none
 else
  Option.bind (α := Int × Unit ⊕ Int × Unit) (
   bif Decidable.decide (Int.tmod a0 a1 < 0) then
    some (Sum.inl (Go.IntKind.wrap Go.IntKind.i64 (Int.tmod a0 a1 + a1), ()))
   else
    some (Sum.inl (Int.tmod a0 a1, ()))
  ) fun y0 =>
   Sum.elim (fun y1 =>
    some ((y1.fst, ()))
   ) (fun z2 =>
    some (z2)
   ) (y0)
def f27.ins : Shape := ⟨[(0, .c (.int .i64)), (1, .c (.int .i64))], []⟩
def f27.outs : List Shape := [⟨[(0, .c (.int .i64))], []⟩]
def f27.S : FnSpec := ⟨f27.ins, f27.outs, [], fun x => f27 x.1 x.2.1⟩
def f27.E (fuel : Nat) : Env := ⟨tis, [], [], [(5, ⟨[(5, .c (.int .i64))], []⟩)], [], [], 0, [], fuel⟩
theorem f27.run : ∀ x, runFn (f27.E 100000000000000000000) Go.Proofs.Try.f27 ((Go.Proofs.Try.f27.body).getD .skip) f27.S x = f27.S.f x := by intro x; kernel_rfl
theorem f27.sound : Sound Go.Proofs.Try.prog 27 f27.S := sound_of_run (fun _ => f27.E 100000000000000000000) (by kernel_rfl) (by kernel_rfl) (by kernel_rfl) orders (fun _ => ⟨tis_ok, EqsOk.nil _, FnsOk.nil⟩) (fun _ => rfl) (by kernel_rfl) (by kernel_rfl) (fun x r h => (f27.run x).trans h)
/-! f29: adit/table.Open -/
def f29 (a0 : List (Int × Int × Int × Int)) (a1 : Int) : Option (Int × Unit) :=
 it (X := List (Int × Int × Int × Int) × Int × Int × Unit) (fun rec0 x1 =>
  bif Decidable.decide (x1.snd.snd.fst < 4) then
   Option.bind (f39 x1.fst x1.snd.snd.fst) fun y2 =>
    bif Decidable.decide (x1.snd.snd.fst > 0) then
     bif Decidable.decide (y2.fst < 0) then
      some ((x1.snd.snd.fst, ()))
     else
      bif inRange y2.fst (List.length x1.fst) then
       bif (List.getD x1.fst (Int.toNat y2.fst) (0, 0, 0, 0)).snd.snd.fst != 0 then
        bif inRange y2.fst (List.length x1.fst) then
         bif Decidable.decide ((List.getD x1.fst (Int.toNat y2.fst) (0, 0, 0, 0)).snd.snd.fst ≤ x1.snd.fst) then
          some ((x1.snd.snd.fst, ()))
         else
          rec0 (x1.fst, x1.snd.fst, Go.IntKind.wrap Go.IntKind.i64 (x1.snd.snd.fst + 1), ())
        else
         none
       else
        rec0 (x1.fst, x1.snd.fst, Go.IntKind.wrap Go.IntKind.i64 (x1.snd.snd.fst + 1), ())
      else
       none
    else
     rec0 (x1.fst, x1.snd.fst, Go.IntKind.wrap Go.IntKind.i64 (x1.snd.snd.fst + 1), ())
  else
   some ((-1, ()))
 ) (100000000000000000000) ((a0, a1, 0, ()))
def f29.ins : Shape := ⟨[(0, .c (.row (.prod (.int .i64) (.prod (.int .i64) (.prod (.int .i64) (.int .i64)))))), (1, .c (.int .i64))], []⟩
def f29.outs : List Shape := [⟨[(0, .c (.int .i64))], []⟩]
def f29.S : FnSpec := ⟨f29.ins, f29.outs, [], fun x => f29 x.1 x.2.1⟩
def f29.E (fuel : Nat) : Env := ⟨tis, [(39, f39.S)], [], [], [(3, ⟨[(0, .c (.row (.prod (.int .i64) (.prod (.int .i64) (.prod (.int .i64) (.int .i64)))))), (1, .c (.int .i64)), (7, .c (.int .i64))], []⟩)], [], 0, [], fuel⟩
theorem f29.run : ∀ x, runFn (f29.E 100000000000000000000) Go.Proofs.Try.f29 ((Go.Proofs.Try.f29.body).getD .skip) f29.S x = f29.S.f x := by intro x; kernel_rfl
theorem f29.sound : Sound Go.Proofs.Try.prog 29 f29.S := sound_of_run (fun _ => f29.E 100000000000000000000) (by kernel_rfl) (by kernel_rfl) (by kernel_rfl) orders (fun _ => ⟨tis_ok, EqsOk.nil _, (FnsOk.cons f39.sound FnsOk.nil)⟩) (fun _ => rfl) (by kernel_rfl) (by kernel_rfl) (fun x r h => (f29.run x).trans h)
/-! f8: adit/aditlaw16.TableOpen -/
def f8 (a0 : Int) (a1 : Int) (a2 : Int) : Option (Bool × Unit) :=
 Option.bind (f26) fun y0 =>
  bif !y0.fst then
   some ((Bool.false, ()))
  else
   Option.bind (f27 a0 4) fun y1 =>
    Option.bind (f28 [] 2 0 0 1 0) fun y2 =>
     bif y2.fst != 0 then
      some ((Bool.false, ()))
     else
      it (X := Int × Int × Int × Int × List (Int × Int × Int × Int) × Unit) (fun rec3 x4 =>
       bif Decidable.decide (x4.snd.snd.snd.fst ≤ x4.fst) then
        Option.bind (f29 x4.snd.snd.snd.snd.fst 100) fun y5 =>
         bif y5.fst != x4.snd.snd.snd.fst then
          some ((Bool.false, ()))
         else
          Option.bind (f28 x4.snd.snd.snd.snd.fst 2 0 x4.snd.snd.snd.fst (Go.IntKind.wrap Go.IntKind.i64 (10 * x4.snd.snd.snd.fst)) 0) fun y6 =>
           bif y6.fst != 0 then
            some ((Bool.false, ()))
           else
            rec3 (x4.fst, x4.snd.fst, x4.snd.snd.fst, Go.IntKind.wrap Go.IntKind.i64 (x4.snd.snd.snd.fst + 1), y6.snd.fst, ())
       else
        Option.bind (α := Int × Int × Int × Int × List (Int × Int × Int × Int) × Unit ⊕ Bool × Unit) (
         bif x4.fst == 3 then
          some (Sum.inl (x4.fst, x4.snd.fst, x4.snd.snd.fst, -1, x4.snd.snd.snd.snd.fst, ()))
         else
          some (Sum.inl (x4.fst, x4.snd.fst, x4.snd.snd.fst, Go.IntKind.wrap Go.IntKind.i64 (x4.fst + 1), x4.snd.snd.snd.snd.fst, ()))
        ) fun y7 =>
         Sum.elim (fun y8 =>
          Option.bind (f29 y8.snd.snd.snd.snd.fst 100) fun y10 =>
           bif y10.fst != y8.snd.snd.snd.fst then
            some ((Bool.false, ()))
           else
            bif y8.fst == 0 then
             some ((Bool.true, ()))
            else
             Option.bind (f27 y8.snd.fst y8.fst) fun y11 =>
              Option.bind (f28 y8.snd.snd.snd.snd.fst 3 0 (Go.IntKind.wrap Go.IntKind.i64 (1 + y11.fst)) 60 50) fun y12 =>
               Option.bind (f27 y8.snd.snd.fst 100) fun y13 =>
                Option.bind (α := Int × Int × Int × List (Int × Int × Int × Int) × Unit ⊕ Bool × Unit) (
                 bif Decidable.decide (y13.fst ≥ 60) then
                  some (Sum.inl (y13.fst, y12.fst, Go.IntKind.wrap Go.IntKind.i64 (1 + y11.fst), y12.snd.fst, ()))
                 else
                  some (Sum.inl (y13.fst, y12.fst, y8.snd.snd.snd.fst, y12.snd.fst, ()))
                ) fun y14 =>
                 Sum.elim (fun y15 =>
                  bif y15.snd.fst == 0 then
                   Option.bind (f29 y15.snd.snd.snd.fst y15.fst) fun y17 =>
                    some ((y17.fst == y15.snd.snd.fst, ()))
                  else
                   some ((Bool.false, ()))
                 ) (fun z16 =>
                  some (z16)
                 ) (y14)
         ) (fun z9 =>
          some (z9)
         ) (y7)
      ) (100000000000000000000) ((y1.fst, a1, a2, 1, y2.snd.fst, ()))
def f8.ins : Shape := ⟨[(0, .c (.int .i64)), (1, .c (.int .i64)), (2, .c (.int .i64))], []⟩
def f8.outs : List Shape := [⟨[(0, .c (.bool))], []⟩]
def f8.S : FnSpec := ⟨f8.ins, f8.outs, [], fun x => f8 x.1 x.2.1 x.2.2.1⟩
def f8.E (fuel : Nat) : Env := ⟨tis, [(28, f28.S), (26, f26.S), (27, f27.S), (29, f29.S)], [], [(19, ⟨[(0, .c (.int .i64)), (1, .c (.int .i64)), (2, .c (.int .i64)), (7, .c (.own 0)), (10, .c (.int .i64))], [(0, .arr (.prod (.int .i64) (.prod (.int .i64) (.prod (.int .i64) (.int .i64)))))]⟩), (28, ⟨[(2, .c (.int .i64)), (7, .c (.own 0)), (8, .c (.int .i64)), (10, .c (.int .i64))], [(0, .arr (.prod (.int .i64) (.prod (.int .i64) (.prod (.int .i64) (.int .i64)))))]⟩)], [(9, ⟨[(0, .c (.int .i64)), (1, .c (.int .i64)), (2, .c (.int .i64)), (7, .c (.own 0)), (9, .c (.int .i64))], [(0, .arr (.prod (.int .i64) (.prod (.int .i64) (.prod (.int .i64) (.int .i64)))))]⟩)], [], 0, [], fuel⟩
theorem f8.run : ∀ x, runFn (f8.E 100000000000000000000) Go.Proofs.Try.f8 ((Go.Proofs.Try.f8.body).getD .skip) f8.S x = f8.S.f x := by intro x; kernel_rfl
theorem f8.sound : Sound Go.Proofs.Try.prog 8 f8.S := sound_of_run (fun _ => f8.E 100000000000000000000) (by kernel_rfl) (by kernel_rfl) (by kernel_rfl) orders (fun _ => ⟨tis_ok, EqsOk.nil _, (FnsOk.cons f28.sound (FnsOk.cons f26.sound (FnsOk.cons f27.sound (FnsOk.cons f29.sound FnsOk.nil))))⟩) (fun _ => rfl) (by kernel_rfl) (by kernel_rfl) (fun x r h => (f8.run x).trans h)
/-! f42: adit/table.Counts$1 -/
def f42 (a0 : Int) (a1 : Int) (a2 : Int) (a3 : Int) (a4 : Int) : Option (Bool × Unit) :=
 some ((Decidable.decide (a1 ≤ a4), ()))
def f42.ins : Shape := ⟨[(0, .agg [.int .i64, .int .i64, .int .i64, .int .i64]), (1, .c (.bptr (.int .i64)))], []⟩
def f42.outs : List Shape := [⟨[(0, .c (.bool))], []⟩]
def f42.S : FnSpec := ⟨f42.ins, f42.outs, [], fun x => f42 x.1 x.2.1 x.2.2.1 x.2.2.2.1 x.2.2.2.2.1⟩
def f42.E (fuel : Nat) : Env := ⟨tis, [], [], [], [], [], 0, [], fuel⟩
theorem f42.run : ∀ x, runFn (f42.E 100000000000000000000) Go.Proofs.Try.f42 ((Go.Proofs.Try.f42.body).getD .skip) f42.S x = f42.S.f x := by intro x; kernel_rfl
theorem f42.sound : Sound Go.Proofs.Try.prog 42 f42.S := sound_of_run (fun _ => f42.E 100000000000000000000) (by kernel_rfl) (by kernel_rfl) (by kernel_rfl) orders (fun _ => ⟨tis_ok, EqsOk.nil _, FnsOk.nil⟩) (fun _ => rfl) (by kernel_rfl) (by kernel_rfl) (fun x r h => (f42.run x).trans h)
/-! f40_2: adit/table.find -/
def f40_2 (a0 : List (Int × Int × Int × Int)) (a1 : Int) (a2 : Int) : Option (Int × Int × Unit) :=
 it (X := List (Int × Int × Int × Int) × Int × Int × Int × Unit) (fun rec0 x1 =>
  bif Decidable.decide (x1.snd.snd.fst ≥ 0) then
   bif inRange x1.snd.snd.fst (List.length x1.fst) then
    bif (List.getD x1.fst (Int.toNat x1.snd.snd.fst) (0, 0, 0, 0)).fst == x1.snd.fst then
     bif inRange x1.snd.snd.fst (List.length x1.fst) then
      Option.bind (f42 (List.getD x1.fst (Int.toNat x1.snd.snd.fst) (0, 0, 0, 0)).fst (List.getD x1.fst (Int.toNat x1.snd.snd.fst) (0, 0, 0, 0)).snd.fst (List.getD x1.fst (Int.toNat x1.snd.snd.fst) (0, 0, 0, 0)).snd.snd.fst (List.getD x1.fst (Int.toNat x1.snd.snd.fst) (0, 0, 0, 0)).snd.snd.snd x1.snd.snd.snd.fst) fun y2 =>
       bif y2.fst then
        some ((x1.snd.snd.fst, x1.snd.snd.snd.fst, ()))
       else
        rec0 (x1.fst, x1.snd.fst, Go.IntKind.wrap Go.IntKind.i64 (x1.snd.snd.fst - 1), x1.snd.snd.snd.fst, ())
     else
      none
    else
     rec0 (x1.fst, x1.snd.fst, Go.IntKind.wrap Go.IntKind.i64 (x1.snd.snd.fst - 1), x1.snd.snd.snd.fst, ())
   else
    none
  else
   some ((-1, x1.snd.snd.snd.fst, ()))
 ) (100000000000000000000) ((a0, a1, Go.IntKind.wrap Go.IntKind.i64 ((↑(List.length a0) : Int) - 1), a2, ()))
def f40_2.ins : Shape := ⟨[(0, .c (.row (.prod (.int .i64) (.prod (.int .i64) (.prod (.int .i64) (.int .i64)))))), (1, .c (.int .i64)), (2, .c (.fn 42 [0]))], [(0, .box [.int .i64])]⟩
def f40_2.outs : List Shape := [⟨[(0, .c (.int .i64))], [(0, .box [.int .i64])]⟩]
def f40_2.S : FnSpec := ⟨f40_2.ins, f40_2.outs, [0], fun x => f40_2 x.1 x.2.1 x.2.2.1⟩
def f40_2.E (fuel : Nat) : Env := ⟨tis, [(42, f42.S)], [], [], [(3, ⟨[(0, .c (.row (.prod (.int .i64) (.prod (.int .i64) (.prod (.int .i64) (.int .i64)))))), (1, .c (.int .i64)), (2, .c (.fn 42 [0])), (7, .c (.int .i64))], [(0, .box [.int .i64])]⟩)], [], 1, [0], fuel⟩
theorem f40_2.run : ∀ x, runFn (f40_2.E 100000000000000000000) Go.Proofs.Try.f40 ((Go.Proofs.Try.f40.body).getD .skip) f40_2.S x = f40_2.S.f x := by intro x; kernel_rfl
theorem f40_2.sound : Sound Go.Proofs.Try.prog 40 f40_2.S := sound_of_run (fun _ => f40_2.E 100000000000000000000) (by kernel_rfl) (by kernel_rfl) (by kernel_rfl) orders (fun _ => ⟨tis_ok, EqsOk.nil _, (FnsOk.cons f42.sound FnsOk.nil)⟩) (fun _ => rfl) (by kernel_rfl) (by kernel_rfl) (fun x r h => (f40_2.run x).trans h)
/-! f31: adit/table.Counts -/
def f31 (a0 : List (Int × Int × Int × Int)) (a1 : Int) (a2 : Int) : Option (Bool × Unit) :=
 Option.bind (f30 a0 a1 a2) fun y0 =>
  Option.bind (f40_2 a0 a1 a2) fun y1 =>
   bif y0.fst == 1 then
    bif inRange y1.fst (List.length a0) then
     bif (List.getD a0 (Int.toNat y1.fst) (0, 0, 0, 0)).snd.snd.fst == 0 then
      some ((Bool.true, ()))
     else
      bif inRange y1.fst (List.length a0) then
       some ((Decidable.decide (y1.snd.fst ≤ (List.getD a0 (Int.toNat y1.fst) (0, 0, 0, 0)).snd.snd.snd), ()))
      else
       none
    else
     none
   else
    some ((Bool.false, ()))
def f31.ins : Shape := ⟨[(0, .c (.row (.prod (.int .i64) (.prod (.int .i64) (.prod (.int .i64) (.int .i64)))))), (1, .c (.int .i64)), (2, .c (.int .i64))], []⟩
def f31.outs : List Shape := [⟨[(0, .c (.bool))], []⟩]
def f31.S : FnSpec := ⟨f31.ins, f31.outs, [], fun x => f31 x.1 x.2.1 x.2.2.1⟩
def f31.E (fuel : Nat) : Env := ⟨tis, [(30, f30.S), (40, f40_2.S)], [], [], [], [], 0, [], fuel⟩
theorem f31.run : ∀ x, runFn (f31.E 100000000000000000000) Go.Proofs.Try.f31 ((Go.Proofs.Try.f31.body).getD .skip) f31.S x = f31.S.f x := by intro x; kernel_rfl
theorem f31.sound : Sound Go.Proofs.Try.prog 31 f31.S := sound_of_run (fun _ => f31.E 100000000000000000000) (by kernel_rfl) (by kernel_rfl) (by kernel_rfl) orders (fun _ => ⟨tis_ok, EqsOk.nil _, (FnsOk.cons f30.sound (FnsOk.cons f40_2.sound FnsOk.nil))⟩) (fun _ => rfl) (by kernel_rfl) (by kernel_rfl) (fun x r h => (f31.run x).trans h)
/-! f9: adit/aditlaw16.TableLives -/
def f9 (a0 : Int) (a1 : List Int) : Option (Bool × Unit) :=
 Option.bind (f26) fun y0 =>
  bif !y0.fst then
   some ((Bool.false, ()))
  else
   Option.bind (f27 a0 3) fun y1 =>
    Option.bind (α := List Int × List (Int × Int × Int × Int) × Unit ⊕ Bool × Unit) (
     it (X := Int × List Int × Int × Int × List (Int × Int × Int × Int) × Unit) (fun rec5 x6 =>
      bif Decidable.decide (x6.snd.snd.snd.fst < (↑(List.length x6.snd.fst) : Int)) then
       bif Decidable.decide (x6.snd.snd.snd.fst < 8) then
        bif inRange x6.snd.snd.snd.fst (List.length x6.snd.fst) then
         Option.bind (f27 (List.getD x6.snd.fst (Int.toNat x6.snd.snd.snd.fst) 0) 20) fun y7 =>
          bif inRange x6.snd.snd.snd.fst (List.length x6.snd.fst) then
           Option.bind (f27 (Go.IntKind.wrap Go.IntKind.i64 (Int.tdiv (List.getD x6.snd.fst (Int.toNat x6.snd.snd.snd.fst) 0) 20)) 20) fun y8 =>
            bif inRange x6.snd.snd.snd.fst (List.length x6.snd.fst) then
             Option.bind (f27 (Go.IntKind.wrap Go.IntKind.i64 (Int.tdiv (List.getD x6.snd.fst (Int.toNat x6.snd.snd.snd.fst) 0) 400)) (Go.IntKind.wrap Go.IntKind.i64 (Go.IntKind.wrap Go.IntKind.i64 (Go.IntKind.wrap Go.IntKind.i64 (Go.IntKind.wrap Go.IntKind.i64 (Go.IntKind.wrap Go.IntKind.i64 (Go.IntKind.wrap Go.IntKind.i64 (x6.snd.snd.fst + 1) + y7.fst) + 1) + y8.fst) - Go.IntKind.wrap Go.IntKind.i64 (Go.IntKind.wrap Go.IntKind.i64 (x6.snd.snd.fst + 1) + y7.fst)) + 1))) fun y9 =>
              Option.bind (f29 x6.snd.snd.snd.snd.fst x6.snd.snd.fst) fun y10 =>
               bif Decidable.decide (y10.fst < 0) then
                some (Sum.inr (Bool.false, ()))
               else
                Option.bind (f28 x6.snd.snd.snd.snd.fst 2 0 x6.fst (Go.IntKind.wrap Go.IntKind.i64 (Go.IntKind.wrap Go.IntKind.i64 (x6.snd.snd.fst + 1) + y7.fst)) 0) fun y11 =>
                 Option.bind (f28 y11.snd.fst 3 0 x6.fst (Go.IntKind.wrap Go.IntKind.i64 (Go.IntKind.wrap Go.IntKind.i64 (Go.IntKind.wrap Go.IntKind.i64 (Go.IntKind.wrap Go.IntKind.i64 (x6.snd.snd.fst + 1) + y7.fst) + 1) + y8.fst)) (Go.IntKind.wrap Go.IntKind.i64 (Go.IntKind.wrap Go.IntKind.i64 (Go.IntKind.wrap Go.IntKind.i64 (x6.snd.snd.fst + 1) + y7.fst) + y9.fst))) fun y12 =>
                  bif y11.fst != 0 then
                   some (Sum.inr (Bool.false, ()))
                  else
                   bif y12.fst != 0 then
                    some (Sum.inr (Bool.false, ()))
                   else
                    it (X := Int × List Int × Int × Int × Int × Int × Int × Int × Int × Bool × Int × Bool × List (Int × Int × Int × Int) × Unit) (fun rec13 x14 =>
                     bif Decidable.decide (x14.snd.snd.snd.snd.snd.snd.snd.fst ≤ Go.IntKind.wrap Go.IntKind.i64 (x14.snd.snd.snd.snd.snd.fst + 3)) then
                      Option.bind (f30 x14.snd.snd.snd.snd.snd.snd.snd.snd.snd.snd.snd.snd.fst x14.fst x14.snd.snd.snd.snd.snd.snd.snd.fst) fun y15 =>
                       Option.bind (α := Int × List Int × Int × Int × Int × Int × Int × Int × Int × Bool × Int × Int × Bool × Int × Bool × List (Int × Int × Int × Int) × Unit ⊕ List Int × List (Int × Int × Int × Int) × Unit ⊕ Bool × Unit) (
                        bif Decidable.decide (x14.snd.snd.snd.snd.snd.snd.snd.fst ≤ x14.snd.snd.snd.snd.fst) then
                         bif x14.snd.snd.snd.fst == 0 then
                          bif Decidable.decide (x14.snd.snd.snd.snd.snd.snd.snd.fst ≤ x14.snd.snd.snd.snd.fst) then
                           some (Sum.inl (x14.fst, x14.snd.fst, x14.snd.snd.fst, x14.snd.snd.snd.fst, x14.snd.snd.snd.snd.fst, x14.snd.snd.snd.snd.snd.fst, x14.snd.snd.snd.snd.snd.snd.fst, x14.snd.snd.snd.snd.snd.snd.snd.fst, y15.fst, y15.snd.fst, 0, x14.snd.snd.snd.snd.snd.snd.snd.snd.fst, x14.snd.snd.snd.snd.snd.snd.snd.snd.snd.fst, x14.snd.snd.snd.snd.snd.snd.snd.snd.snd.snd.fst, x14.snd.snd.snd.snd.snd.snd.snd.snd.snd.snd.snd.fst, x14.snd.snd.snd.snd.snd.snd.snd.snd.snd.snd.snd.snd.fst, ()))
                          else
                           some (Sum.inl (x14.fst, x14.snd.fst, x14.snd.snd.fst, x14.snd.snd.snd.fst, x14.snd.snd.snd.snd.fst, x14.snd.snd.snd.snd.snd.fst, x14.snd.snd.snd.snd.snd.snd.fst, x14.snd.snd.snd.snd.snd.snd.snd.fst, y15.fst, y15.snd.fst, 2, x14.snd.snd.snd.snd.snd.snd.snd.snd.fst, x14.snd.snd.snd.snd.snd.snd.snd.snd.snd.fst, x14.snd.snd.snd.snd.snd.snd.snd.snd.snd.snd.fst, x14.snd.snd.snd.snd.snd.snd.snd.snd.snd.snd.snd.fst, x14.snd.snd.snd.snd.snd.snd.snd.snd.snd.snd.snd.snd.fst, ()))
                         else
                          some (Sum.inl (x14.fst, x14.snd.fst, x14.snd.snd.fst, x14.snd.snd.snd.fst, x14.snd.snd.snd.snd.fst, x14.snd.snd.snd.snd.snd.fst, x14.snd.snd.snd.snd.snd.snd.fst, x14.snd.snd.snd.snd.snd.snd.snd.fst, y15.fst, y15.snd.fst, 2, x14.snd.snd.snd.snd.snd.snd.snd.snd.fst, x14.snd.snd.snd.snd.snd.snd.snd.snd.snd.fst, x14.snd.snd.snd.snd.snd.snd.snd.snd.snd.snd.fst, x14.snd.snd.snd.snd.snd.snd.snd.snd.snd.snd.snd.fst, x14.snd.snd.snd.snd.snd.snd.snd.snd.snd.snd.snd.snd.fst, ()))
                        else
                         bif Decidable.decide (x14.snd.snd.snd.snd.snd.snd.snd.fst > x14.snd.snd.snd.snd.snd.fst) then
                          bif x14.snd.snd.snd.fst == 0 then
                           bif Decidable.decide (x14.snd.snd.snd.snd.snd.snd.snd.fst ≤ x14.snd.snd.snd.snd.fst) then
                            some (Sum.inl (x14.fst, x14.snd.fst, x14.snd.snd.fst, x14.snd.snd.snd.fst, x14.snd.snd.snd.snd.fst, x14.snd.snd.snd.snd.snd.fst, x14.snd.snd.snd.snd.snd.snd.fst, x14.snd.snd.snd.snd.snd.snd.snd.fst, y15.fst, y15.snd.fst, 0, x14.snd.snd.snd.snd.snd.snd.snd.snd.fst, x14.snd.snd.snd.snd.snd.snd.snd.snd.snd.fst, x14.snd.snd.snd.snd.snd.snd.snd.snd.snd.snd.fst, x14.snd.snd.snd.snd.snd.snd.snd.snd.snd.snd.snd.fst, x14.snd.snd.snd.snd.snd.snd.snd.snd.snd.snd.snd.snd.fst, ()))
                           else
                            some (Sum.inl (x14.fst, x14.snd.fst, x14.snd.snd.fst, x14.snd.snd.snd.fst, x14.snd.snd.snd.snd.fst, x14.snd.snd.snd.snd.snd.fst, x14.snd.snd.snd.snd.snd.snd.fst, x14.snd.snd.snd.snd.snd.snd.snd.fst, y15.fst, y15.snd.fst, 2, x14.snd.snd.snd.snd.snd.snd.snd.snd.fst, x14.snd.snd.snd.snd.snd.snd.snd.snd.snd.fst, x14.snd.snd.snd.snd.snd.snd.snd.snd.snd.snd.fst, x14.snd.snd.snd.snd.snd.snd.snd.snd.snd.snd.snd.fst, x14.snd.snd.snd.snd.snd.snd.snd.snd.snd.snd.snd.snd.fst, ()))
                          else
                           some (Sum.inl (x14.fst, x14.snd.fst, x14.snd.snd.fst, x14.snd.snd.snd.fst, x14.snd.snd.snd.snd.fst, x14.snd.snd.snd.snd.snd.fst, x14.snd.snd.snd.snd.snd.snd.fst, x14.snd.snd.snd.snd.snd.snd.snd.fst, y15.fst, y15.snd.fst, 2, x14.snd.snd.snd.snd.snd.snd.snd.snd.fst, x14.snd.snd.snd.snd.snd.snd.snd.snd.snd.fst, x14.snd.snd.snd.snd.snd.snd.snd.snd.snd.snd.fst, x14.snd.snd.snd.snd.snd.snd.snd.snd.snd.snd.snd.fst, x14.snd.snd.snd.snd.snd.snd.snd.snd.snd.snd.snd.snd.fst, ()))
                         else
                          some (Sum.inl (x14.fst, x14.snd.fst, x14.snd.snd.fst, x14.snd.snd.snd.fst, x14.snd.snd.snd.snd.fst, x14.snd.snd.snd.snd.snd.fst, x14.snd.snd.snd.snd.snd.snd.fst, x14.snd.snd.snd.snd.snd.snd.snd.fst, y15.fst, y15.snd.fst, 1, x14.snd.snd.snd.snd.snd.snd.snd.snd.fst, x14.snd.snd.snd.snd.snd.snd.snd.snd.snd.fst, x14.snd.snd.snd.snd.snd.snd.snd.snd.snd.snd.fst, x14.snd.snd.snd.snd.snd.snd.snd.snd.snd.snd.snd.fst, x14.snd.snd.snd.snd.snd.snd.snd.snd.snd.snd.snd.snd.fst, ()))
                       ) fun y16 =>
                        Sum.elim (fun y17 =>
                         bif Decidable.decide (y17.snd.snd.snd.snd.snd.snd.snd.fst > y17.snd.snd.fst) then
                          bif y17.snd.snd.snd.snd.snd.snd.snd.snd.fst != y17.snd.snd.snd.snd.snd.snd.snd.snd.snd.snd.fst then
                           some (Sum.inr (Bool.false, ()))
                          else
                           bif !y17.snd.snd.snd.snd.snd.snd.snd.snd.snd.fst == (y17.snd.snd.snd.snd.snd.snd.snd.fst == y17.snd.snd.snd.snd.fst) then
                            some (Sum.inr (Bool.false, ()))
                           else
                            Option.bind (f31 y17.snd.snd.snd.snd.snd.snd.snd.snd.snd.snd.snd.snd.snd.snd.snd.fst y17.fst y17.snd.snd.snd.snd.snd.snd.snd.fst) fun y19 =>
                             bif Decidable.decide (y17.snd.snd.snd.snd.snd.snd.snd.fst > y17.snd.snd.snd.snd.fst) then
                              bif !y19.fst == Decidable.decide (y17.snd.snd.snd.snd.snd.snd.snd.fst ≤ y17.snd.snd.snd.snd.snd.snd.fst) then
                               some (Sum.inr (Bool.false, ()))
                              else
                               rec13 (y17.fst, y17.snd.fst, y17.snd.snd.fst, y17.snd.snd.snd.fst, y17.snd.snd.snd.snd.fst, y17.snd.snd.snd.snd.snd.fst, y17.snd.snd.snd.snd.snd.snd.fst, Go.IntKind.wrap Go.IntKind.i64 (y17.snd.snd.snd.snd.snd.snd.snd.fst + 1), y17.snd.snd.snd.snd.snd.snd.snd.snd.snd.snd.snd.fst, y17.snd.snd.snd.snd.snd.snd.snd.snd.snd.snd.snd.snd.fst, y17.snd.snd.snd.snd.snd.snd.snd.snd.snd.snd.snd.snd.snd.fst, y17.snd.snd.snd.snd.snd.snd.snd.snd.snd.snd.snd.snd.snd.snd.fst, y17.snd.snd.snd.snd.snd.snd.snd.snd.snd.snd.snd.snd.snd.snd.snd.fst, ())
                             else
                              bif !y19.fst == Bool.false then
                               some (Sum.inr (Bool.false, ()))
                              else
                               rec13 (y17.fst, y17.snd.fst, y17.snd.snd.fst, y17.snd.snd.snd.fst, y17.snd.snd.snd.snd.fst, y17.snd.snd.snd.snd.snd.fst, y17.snd.snd.snd.snd.snd.snd.fst, Go.IntKind.wrap Go.IntKind.i64 (y17.snd.snd.snd.snd.snd.snd.snd.fst + 1), y17.snd.snd.snd.snd.snd.snd.snd.snd.snd.snd.snd.fst, y17.snd.snd.snd.snd.snd.snd.snd.snd.snd.snd.snd.snd.fst, y17.snd.snd.snd.snd.snd.snd.snd.snd.snd.snd.snd.snd.snd.fst, y17.snd.snd.snd.snd.snd.snd.snd.snd.snd.snd.snd.snd.snd.snd.fst, y17.snd.snd.snd.snd.snd.snd.snd.snd.snd.snd.snd.snd.snd.snd.snd.fst, ())
                         else
                          rec13 (y17.fst, y17.snd.fst, y17.snd.snd.fst, y17.snd.snd.snd.fst, y17.snd.snd.snd.snd.fst, y17.snd.snd.snd.snd.snd.fst, y17.snd.snd.snd.snd.snd.snd.fst, Go.IntKind.wrap Go.IntKind.i64 (y17.snd.snd.snd.snd.snd.snd.snd.fst + 1), y17.snd.snd.snd.snd.snd.snd.snd.snd.snd.snd.snd.fst, y17.snd.snd.snd.snd.snd.snd.snd.snd.snd.snd.snd.snd.fst, y17.snd.snd.snd.snd.snd.snd.snd.snd.snd.snd.snd.snd.snd.fst, y17.snd.snd.snd.snd.snd.snd.snd.snd.snd.snd.snd.snd.snd.snd.fst, y17.snd.snd.snd.snd.snd.snd.snd.snd.snd.snd.snd.snd.snd.snd.snd.fst, ())
                        ) (fun z18 =>
                         some (z18)
                        ) (y16)
                     else
                      rec5 (x14.fst, x14.snd.fst, x14.snd.snd.snd.snd.snd.fst, Go.IntKind.wrap Go.IntKind.i64 (x14.snd.snd.snd.fst + 1), x14.snd.snd.snd.snd.snd.snd.snd.snd.snd.snd.snd.snd.fst, ())
                    ) (100000000000000000000) ((x6.fst, x6.snd.fst, x6.snd.snd.fst, x6.snd.snd.snd.fst, Go.IntKind.wrap Go.IntKind.i64 (Go.IntKind.wrap Go.IntKind.i64 (x6.snd.snd.fst + 1) + y7.fst), Go.IntKind.wrap Go.IntKind.i64 (Go.IntKind.wrap Go.IntKind.i64 (Go.IntKind.wrap Go.IntKind.i64 (Go.IntKind.wrap Go.IntKind.i64 (x6.snd.snd.fst + 1) + y7.fst) + 1) + y8.fst), Go.IntKind.wrap Go.IntKind.i64 (Go.IntKind.wrap Go.IntKind.i64 (Go.IntKind.wrap Go.IntKind.i64 (x6.snd.snd.fst + 1) + y7.fst) + y9.fst), x6.snd.snd.fst, x6.snd.snd.snd.fst, Decidable.decide (x6.snd.snd.snd.fst < 8), y12.fst, y12.fst != 0, y12.snd.fst, ()))
            else
             none
          else
           none
        else
         none
       else
        some (Sum.inl (x6.snd.fst, x6.snd.snd.snd.snd.fst, ()))
      else
       some (Sum.inl (x6.snd.fst, x6.snd.snd.snd.snd.fst, ()))
     ) (100000000000000000000) ((Go.IntKind.wrap Go.IntKind.i64 (1 + y1.fst), a1, 0, 0, [], ()))
    ) fun y2 =>
     Sum.elim (fun y3 =>
      bif (↑(List.length y3.fst) : Int) == 0 then
       some ((Bool.true, ()))
      else
       some (((↑(List.length y3.snd.fst) : Int) == minI (↑(List.length y3.fst) : Int) 8, ()))
     ) (fun z4 =>
      some (z4)
     ) (y2)
def f9.ins : Shape := ⟨[(0, .c (.int .i64)), (1, .c (.row (.int .i64)))], []⟩
def f9.outs : List Shape := [⟨[(0, .c (.bool))], []⟩]
def f9.S : FnSpec := ⟨f9.ins, f9.outs, [], fun x => f9 x.1 x.2.1⟩
def f9.E (fuel : Nat) : Env := ⟨tis, [(28, f28.S), (30, f30.S), (26, f26.S), (27, f27.S), (29, f29.S), (31, f31.S)], [], [(28, ⟨[(0, .c (.int .i64)), (1, .c (.row (.int .i64))), (6, .c (.int .i64)), (7, .c (.int .i64)), (8, .c (.int .i64)), (9, .c (.int .i64)), (10, .c (.int .i64)), (13, .c (.own 0)), (15, .c (.int .i64)), (16, .c (.int .i64)), (17, .c (.bool)), (18, .c (.int .i64)), (29, .c (.int .i64)), (30, .c (.bool)), (87, .c (.int .i64)), (88, .c (.bool))], [(0, .arr (.prod (.int .i64) (.prod (.int .i64) (.prod (.int .i64) (.int .i64)))))]⟩), (32, ⟨[(1, .c (.row (.int .i64))), (5, .c (.own 0))], [(0, .arr (.prod (.int .i64) (.prod (.int .i64) (.prod (.int .i64) (.int .i64)))))]⟩)], [(8, ⟨[(0, .c (.int .i64)), (1, .c (.row (.int .i64))), (5, .c (.own 0)), (6, .c (.int .i64)), (7, .c (.int .i64))], [(0, .arr (.prod (.int .i64) (.prod (.int .i64) (.prod (.int .i64) (.int .i64)))))]⟩), (20, ⟨[(0, .c (.int .i64)), (1, .c (.row (.int .i64))), (6, .c (.int .i64)), (7, .c (.int .i64)), (8, .c (.int .i64)), (9, .c (.int .i64)), (10, .c (.int .i64)), (13, .c (.own 0)), (15, .c (.int .i64)), (29, .c (.int .i64)), (30, .c (.bool)), (87, .c (.int .i64)), (88, .c (.bool))], [(0, .arr (.prod (.int .i64) (.prod (.int .i64) (.prod (.int .i64) (.int .i64)))))]⟩)], [], 0, [], fuel⟩
theorem f9.run : ∀ x, runFn (f9.E 100000000000000000000) Go.Proofs.Try.f9 ((Go.Proofs.Try.f9.body).getD .skip) f9.S x = f9.S.f x := by intro x; kernel_rfl
theorem f9.sound : Sound Go.Proofs.Try.prog 9 f9.S := sound_of_run (fun _ => f9.E 100000000000000000000) (by kernel_rfl) (by kernel_rfl) (by kernel_rfl) orders (fun _ => ⟨tis_ok, EqsOk.nil _, (FnsOk.cons f28.sound (FnsOk.cons f30.sound (FnsOk.cons f26.sound (FnsOk.cons f27.sound (FnsOk.cons f29.sound (FnsOk.cons f31.sound FnsOk.nil))))))⟩) (fun _ => rfl) (by kernel_rfl) (by kernel_rfl) (fun x r h => (f9.run x).trans h)
end
end Go.Proofs.Ytamedfccknfeaaa.Run

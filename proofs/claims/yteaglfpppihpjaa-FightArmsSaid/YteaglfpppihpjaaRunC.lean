/- Functions of the program as Lean functions: printed by a tool of this session (own work). -/
import Derived.Test.YteaglfpppihpjaaProg
import Derived.Test.YteaglfpppihpjaaMxY
import Derived.Test.YteaglfpppihpjaaRunB
namespace Go.Proofs.Yteaglfpppihpjaa.Run
open Go Go.Proofs.Yteaglfpppihpjaa.Mx
set_option autoImplicit false
set_option linter.unusedVariables false
set_option maxRecDepth 100000
set_option maxHeartbeats 4000000
noncomputable section
def tyC3 : TI := ⟨.int .i64, 1, 8, [.int .i64 0], some (.int .i64)⟩
def tyC24 : TI := ⟨.slice 33, 1, 24, [.nils], some (.row (.prod (.int .i64) (.prod (.int .i64) (.prod (.int .i64) (.prod (.int .i64) (.prod (.int .i64) (.prod (.int .i64) (.prod (.int .i64) (.prod (.int .i64) (.prod (.int .i64) (.prod (.int .i64) (.int .i64))))))))))))⟩
def tyC25 : TI := ⟨.slice 39, 1, 24, [.nils], some (.row (.prod (.int .i64) (.prod (.int .i64) (.prod (.int .i64) (.int .i64)))))⟩
def tyC28 : TI := ⟨.struct [(0, 2), (1, 3), (2, 3), (3, 3), (4, 23), (5, 24), (6, 25), (7, 26)], 11, 136, [.int .i64 0, .int .i64 0, .int .i64 0, .int .i64 0, .nils, .nils, .nils, .int .i64 0, .int .i64 0, .int .i64 0, .int .i64 0], some (.prod (.int .i64) (.prod (.int .i64) (.prod (.int .i64) (.prod (.int .i64) (.prod (.row (.int .u8)) (.prod (.row (.prod (.int .i64) (.prod (.int .i64) (.prod (.int .i64) (.prod (.int .i64) (.prod (.int .i64) (.prod (.int .i64) (.prod (.int .i64) (.prod (.int .i64) (.prod (.int .i64) (.prod (.int .i64) (.int .i64)))))))))))) (.prod (.row (.prod (.int .i64) (.prod (.int .i64) (.prod (.int .i64) (.int .i64))))) (.prod (.int .i64) (.prod (.int .i64) (.prod (.int .i64) (.int .i64)))))))))))⟩
def tyC33 : TI := ⟨.struct [(0, 3), (1, 3), (2, 3), (3, 3), (4, 3), (5, 3), (6, 3), (7, 3), (8, 3), (9, 3), (10, 3)], 11, 88, [.int .i64 0, .int .i64 0, .int .i64 0, .int .i64 0, .int .i64 0, .int .i64 0, .int .i64 0, .int .i64 0, .int .i64 0, .int .i64 0, .int .i64 0], some (.prod (.int .i64) (.prod (.int .i64) (.prod (.int .i64) (.prod (.int .i64) (.prod (.int .i64) (.prod (.int .i64) (.prod (.int .i64) (.prod (.int .i64) (.prod (.int .i64) (.prod (.int .i64) (.int .i64)))))))))))⟩
def tyC39 : TI := ⟨.struct [(0, 3), (1, 3), (2, 3), (3, 3)], 4, 32, [.int .i64 0, .int .i64 0, .int .i64 0, .int .i64 0], some (.prod (.int .i64) (.prod (.int .i64) (.prod (.int .i64) (.int .i64))))⟩
def tyC42 : TI := ⟨.slice 3, 1, 24, [.nils], some (.row (.int .i64))⟩
def tisC : List (Nat × TI) := [(3, tyC3), (24, tyC24), (25, tyC25), (28, tyC28), (33, tyC33), (39, tyC39), (42, tyC42)]
theorem tyC3_ok : TIok Go.Proofs.Try.prog 3 tyC3 := ⟨by kernel_rfl, by kernel_rfl, by kernel_rfl, by kernel_rfl, by kernel_rfl, by kernel_rfl, by kernel_rfl, by kernel_rfl⟩
theorem tyC24_ok : TIok Go.Proofs.Try.prog 24 tyC24 := ⟨by kernel_rfl, by kernel_rfl, by kernel_rfl, by kernel_rfl, by kernel_rfl, by kernel_rfl, by kernel_rfl, by kernel_rfl⟩
theorem tyC25_ok : TIok Go.Proofs.Try.prog 25 tyC25 := ⟨by kernel_rfl, by kernel_rfl, by kernel_rfl, by kernel_rfl, by kernel_rfl, by kernel_rfl, by kernel_rfl, by kernel_rfl⟩
theorem tyC28_ok : TIok Go.Proofs.Try.prog 28 tyC28 := ⟨by kernel_rfl, by kernel_rfl, by kernel_rfl, by kernel_rfl, by kernel_rfl, by kernel_rfl, by kernel_rfl, by kernel_rfl⟩
theorem tyC33_ok : TIok Go.Proofs.Try.prog 33 tyC33 := ⟨by kernel_rfl, by kernel_rfl, by kernel_rfl, by kernel_rfl, by kernel_rfl, by kernel_rfl, by kernel_rfl, by kernel_rfl⟩
theorem tyC39_ok : TIok Go.Proofs.Try.prog 39 tyC39 := ⟨by kernel_rfl, by kernel_rfl, by kernel_rfl, by kernel_rfl, by kernel_rfl, by kernel_rfl, by kernel_rfl, by kernel_rfl⟩
theorem tyC42_ok : TIok Go.Proofs.Try.prog 42 tyC42 := ⟨by kernel_rfl, by kernel_rfl, by kernel_rfl, by kernel_rfl, by kernel_rfl, by kernel_rfl, by kernel_rfl, by kernel_rfl⟩
theorem tisC_ok : TIs Go.Proofs.Try.prog tisC := (TIs.cons tyC3_ok (TIs.cons tyC24_ok (TIs.cons tyC25_ok (TIs.cons tyC28_ok (TIs.cons tyC33_ok (TIs.cons tyC39_ok (TIs.cons tyC42_ok (TIs.nil _))))))))
theorem ordersC : Go.Proofs.Try.prog.follows .mixedOrders = true := by kernel_rfl
theorem eqC33 : EqOk Go.Proofs.Try.prog 33 [.int .i64, .int .i64, .int .i64, .int .i64, .int .i64, .int .i64, .int .i64, .int .i64, .int .i64, .int .i64, .int .i64] := eqok_of (by kernel_rfl) (by kernel_rfl) (by kernel_rfl) (by kernel_rfl)
/-! f5: adit/aditlaw8.FightBounds -/
def f5.L1 (k0 : List Int × List Int × Int × Int × Int × Int × Int × Int × Int × Int × Int × Int × List Int × List (Int × Int × Int × Int × Int × Int × Int × Int × Int × Int × Int) × List (Int × Int × Int × Int) × Unit → Option (Int × Int × Int × Int × Int × Int × Int × Int × List Int × List (Int × Int × Int × Int × Int × Int × Int × Int × Int × Int × Int) × List (Int × Int × Int × Int) × Unit ⊕ Bool × Unit)) (x : List Int × List Int × Int × Int × Int × Int × Int × Int × Int × Int × Int × Int × Int × List Int × List (Int × Int × Int × Int × Int × Int × Int × Int × Int × Int × Int) × List (Int × Int × Int × Int) × Unit) : Option (Int × Int × Int × Int × Int × Int × Int × Int × List Int × List (Int × Int × Int × Int × Int × Int × Int × Int × Int × Int × Int) × List (Int × Int × Int × Int) × Unit ⊕ Bool × Unit) :=
 it (X := List Int × List Int × Int × Int × Int × Int × Int × Int × Int × Int × Int × Int × Int × List Int × List (Int × Int × Int × Int × Int × Int × Int × Int × Int × Int × Int) × List (Int × Int × Int × Int) × Unit) (fun rec x =>
 bif Decidable.decide (x.snd.snd.snd.snd.fst < (↑(List.length x.snd.snd.snd.snd.snd.snd.snd.snd.snd.snd.snd.snd.snd.snd.snd.fst) : Int)) then
  bif x.snd.snd.snd.fst == 0 then
   Option.bind (f10 x.snd.snd.snd.snd.snd.snd.snd.snd.snd.snd.snd.snd.snd.snd.fst x.snd.snd.snd.fst) fun y0 =>
    bif Decidable.decide (y0.fst < 0) then
     bif inRange x.snd.snd.snd.snd.fst (List.length x.snd.snd.snd.snd.snd.snd.snd.snd.snd.snd.snd.snd.snd.snd.snd.fst) then
      bif (List.getD x.snd.snd.snd.snd.snd.snd.snd.snd.snd.snd.snd.snd.snd.snd.snd.fst (Int.toNat x.snd.snd.snd.snd.fst) (0, 0, 0, 0)).snd.snd.fst == x.snd.snd.snd.fst then
       bif inRange x.snd.snd.snd.snd.fst (List.length x.snd.snd.snd.snd.snd.snd.snd.snd.snd.snd.snd.snd.snd.snd.snd.fst) then
        bif (List.getD x.snd.snd.snd.snd.snd.snd.snd.snd.snd.snd.snd.snd.snd.snd.snd.fst (Int.toNat x.snd.snd.snd.snd.fst) (0, 0, 0, 0)).snd.fst == 2 then
         some (Sum.inr (Bool.false, ()))
        else
         bif inRange x.snd.snd.snd.snd.fst (List.length x.snd.snd.snd.snd.snd.snd.snd.snd.snd.snd.snd.snd.snd.snd.snd.fst) then
          bif (List.getD x.snd.snd.snd.snd.snd.snd.snd.snd.snd.snd.snd.snd.snd.snd.snd.fst (Int.toNat x.snd.snd.snd.snd.fst) (0, 0, 0, 0)).snd.fst == 3 then
           some (Sum.inr (Bool.false, ()))
          else
           rec (x.fst, x.snd.fst, x.snd.snd.fst, x.snd.snd.snd.fst, Go.IntKind.wrap Go.IntKind.i64 (x.snd.snd.snd.snd.fst + 1), x.snd.snd.snd.snd.snd.fst, x.snd.snd.snd.snd.snd.snd.fst, x.snd.snd.snd.snd.snd.snd.snd.fst, x.snd.snd.snd.snd.snd.snd.snd.snd.fst, x.snd.snd.snd.snd.snd.snd.snd.snd.snd.fst, x.snd.snd.snd.snd.snd.snd.snd.snd.snd.snd.fst, x.snd.snd.snd.snd.snd.snd.snd.snd.snd.snd.snd.fst, x.snd.snd.snd.snd.snd.snd.snd.snd.snd.snd.snd.snd.fst, x.snd.snd.snd.snd.snd.snd.snd.snd.snd.snd.snd.snd.snd.fst, x.snd.snd.snd.snd.snd.snd.snd.snd.snd.snd.snd.snd.snd.snd.fst, x.snd.snd.snd.snd.snd.snd.snd.snd.snd.snd.snd.snd.snd.snd.snd.fst, ())
         else
          none
       else
        none
      else
       rec (x.fst, x.snd.fst, x.snd.snd.fst, x.snd.snd.snd.fst, Go.IntKind.wrap Go.IntKind.i64 (x.snd.snd.snd.snd.fst + 1), x.snd.snd.snd.snd.snd.fst, x.snd.snd.snd.snd.snd.snd.fst, x.snd.snd.snd.snd.snd.snd.snd.fst, x.snd.snd.snd.snd.snd.snd.snd.snd.fst, x.snd.snd.snd.snd.snd.snd.snd.snd.snd.fst, x.snd.snd.snd.snd.snd.snd.snd.snd.snd.snd.fst, x.snd.snd.snd.snd.snd.snd.snd.snd.snd.snd.snd.fst, x.snd.snd.snd.snd.snd.snd.snd.snd.snd.snd.snd.snd.fst, x.snd.snd.snd.snd.snd.snd.snd.snd.snd.snd.snd.snd.snd.fst, x.snd.snd.snd.snd.snd.snd.snd.snd.snd.snd.snd.snd.snd.snd.fst, x.snd.snd.snd.snd.snd.snd.snd.snd.snd.snd.snd.snd.snd.snd.snd.fst, ())
     else
      none
    else
     k0 (x.fst, x.snd.fst, x.snd.snd.fst, Go.IntKind.wrap Go.IntKind.i64 (x.snd.snd.snd.fst + 1), x.snd.snd.snd.snd.snd.fst, x.snd.snd.snd.snd.snd.snd.fst, x.snd.snd.snd.snd.snd.snd.snd.fst, x.snd.snd.snd.snd.snd.snd.snd.snd.fst, x.snd.snd.snd.snd.snd.snd.snd.snd.snd.fst, x.snd.snd.snd.snd.snd.snd.snd.snd.snd.snd.fst, x.snd.snd.snd.snd.snd.snd.snd.snd.snd.snd.snd.fst, x.snd.snd.snd.snd.snd.snd.snd.snd.snd.snd.snd.snd.fst, x.snd.snd.snd.snd.snd.snd.snd.snd.snd.snd.snd.snd.snd.fst, x.snd.snd.snd.snd.snd.snd.snd.snd.snd.snd.snd.snd.snd.snd.fst, x.snd.snd.snd.snd.snd.snd.snd.snd.snd.snd.snd.snd.snd.snd.snd.fst, ())
  else
   k0 (x.fst, x.snd.fst, x.snd.snd.fst, Go.IntKind.wrap Go.IntKind.i64 (x.snd.snd.snd.fst + 1), x.snd.snd.snd.snd.snd.fst, x.snd.snd.snd.snd.snd.snd.fst, x.snd.snd.snd.snd.snd.snd.snd.fst, x.snd.snd.snd.snd.snd.snd.snd.snd.fst, x.snd.snd.snd.snd.snd.snd.snd.snd.snd.fst, x.snd.snd.snd.snd.snd.snd.snd.snd.snd.snd.fst, x.snd.snd.snd.snd.snd.snd.snd.snd.snd.snd.snd.fst, x.snd.snd.snd.snd.snd.snd.snd.snd.snd.snd.snd.snd.fst, x.snd.snd.snd.snd.snd.snd.snd.snd.snd.snd.snd.snd.snd.fst, x.snd.snd.snd.snd.snd.snd.snd.snd.snd.snd.snd.snd.snd.snd.fst, x.snd.snd.snd.snd.snd.snd.snd.snd.snd.snd.snd.snd.snd.snd.snd.fst, ())
 else
  k0 (x.fst, x.snd.fst, x.snd.snd.fst, Go.IntKind.wrap Go.IntKind.i64 (x.snd.snd.snd.fst + 1), x.snd.snd.snd.snd.snd.fst, x.snd.snd.snd.snd.snd.snd.fst, x.snd.snd.snd.snd.snd.snd.snd.fst, x.snd.snd.snd.snd.snd.snd.snd.snd.fst, x.snd.snd.snd.snd.snd.snd.snd.snd.snd.fst, x.snd.snd.snd.snd.snd.snd.snd.snd.snd.snd.fst, x.snd.snd.snd.snd.snd.snd.snd.snd.snd.snd.snd.fst, x.snd.snd.snd.snd.snd.snd.snd.snd.snd.snd.snd.snd.fst, x.snd.snd.snd.snd.snd.snd.snd.snd.snd.snd.snd.snd.snd.fst, x.snd.snd.snd.snd.snd.snd.snd.snd.snd.snd.snd.snd.snd.snd.fst, x.snd.snd.snd.snd.snd.snd.snd.snd.snd.snd.snd.snd.snd.snd.snd.fst, ())
 ) (100000000000000000000) (x)
def f5.L2 (k0 : List Int × List Int × Int × Int × Int × Int × Int × Int × Int × Int × Int × List Int × List (Int × Int × Int × Int × Int × Int × Int × Int × Int × Int × Int) × List (Int × Int × Int × Int) × Unit → Option (Int × Int × Int × Int × Int × Int × Int × Int × List Int × List (Int × Int × Int × Int × Int × Int × Int × Int × Int × Int × Int) × List (Int × Int × Int × Int) × Unit ⊕ Bool × Unit)) (x : List Int × List Int × Int × Int × Int × Int × Int × Int × Int × Int × Int × Int × List Int × List (Int × Int × Int × Int × Int × Int × Int × Int × Int × Int × Int) × List (Int × Int × Int × Int) × Unit) : Option (Int × Int × Int × Int × Int × Int × Int × Int × List Int × List (Int × Int × Int × Int × Int × Int × Int × Int × Int × Int × Int) × List (Int × Int × Int × Int) × Unit ⊕ Bool × Unit) :=
 it (X := List Int × List Int × Int × Int × Int × Int × Int × Int × Int × Int × Int × Int × List Int × List (Int × Int × Int × Int × Int × Int × Int × Int × Int × Int × Int) × List (Int × Int × Int × Int) × Unit) (fun rec x =>
 bif Decidable.decide (x.snd.snd.snd.fst < 4) then
  f5.L1 rec ((x.fst, x.snd.fst, x.snd.snd.fst, x.snd.snd.snd.fst, 0, x.snd.snd.snd.snd.fst, x.snd.snd.snd.snd.snd.fst, x.snd.snd.snd.snd.snd.snd.fst, x.snd.snd.snd.snd.snd.snd.snd.fst, x.snd.snd.snd.snd.snd.snd.snd.snd.fst, x.snd.snd.snd.snd.snd.snd.snd.snd.snd.fst, x.snd.snd.snd.snd.snd.snd.snd.snd.snd.snd.fst, x.snd.snd.snd.snd.snd.snd.snd.snd.snd.snd.snd.fst, x.snd.snd.snd.snd.snd.snd.snd.snd.snd.snd.snd.snd.fst, x.snd.snd.snd.snd.snd.snd.snd.snd.snd.snd.snd.snd.snd.fst, x.snd.snd.snd.snd.snd.snd.snd.snd.snd.snd.snd.snd.snd.snd.fst, ()))
 else
  k0 (x.fst, x.snd.fst, Go.IntKind.wrap Go.IntKind.i64 (x.snd.snd.fst + 1), x.snd.snd.snd.snd.fst, x.snd.snd.snd.snd.snd.fst, x.snd.snd.snd.snd.snd.snd.fst, x.snd.snd.snd.snd.snd.snd.snd.fst, x.snd.snd.snd.snd.snd.snd.snd.snd.fst, x.snd.snd.snd.snd.snd.snd.snd.snd.snd.fst, x.snd.snd.snd.snd.snd.snd.snd.snd.snd.snd.fst, x.snd.snd.snd.snd.snd.snd.snd.snd.snd.snd.snd.fst, x.snd.snd.snd.snd.snd.snd.snd.snd.snd.snd.snd.snd.fst, x.snd.snd.snd.snd.snd.snd.snd.snd.snd.snd.snd.snd.snd.fst, x.snd.snd.snd.snd.snd.snd.snd.snd.snd.snd.snd.snd.snd.snd.fst, ())
 ) (100000000000000000000) (x)
def f5.L3 (k0 : List Int × List Int × Int × Int × Int × Int × Int × Int × Int × Int × Int × List Int × List (Int × Int × Int × Int × Int × Int × Int × Int × Int × Int × Int) × List (Int × Int × Int × Int) × Unit → Option (Int × Int × Int × Int × Int × Int × Int × Int × List Int × List (Int × Int × Int × Int × Int × Int × Int × Int × Int × Int × Int) × List (Int × Int × Int × Int) × Unit ⊕ Bool × Unit)) (x : List Int × List Int × Int × Int × Int × Int × Int × Int × Int × Int × Int × Int × List Int × List (Int × Int × Int × Int × Int × Int × Int × Int × Int × Int × Int) × List (Int × Int × Int × Int) × Unit) : Option (Int × Int × Int × Int × Int × Int × Int × Int × List Int × List (Int × Int × Int × Int × Int × Int × Int × Int × Int × Int × Int) × List (Int × Int × Int × Int) × Unit ⊕ Bool × Unit) :=
 it (X := List Int × List Int × Int × Int × Int × Int × Int × Int × Int × Int × Int × Int × List Int × List (Int × Int × Int × Int × Int × Int × Int × Int × Int × Int × Int) × List (Int × Int × Int × Int) × Unit) (fun rec x =>
 bif Decidable.decide (x.snd.snd.snd.fst < (↑(List.length x.snd.snd.snd.snd.snd.snd.snd.snd.snd.snd.snd.snd.snd.fst) : Int)) then
  bif inRange x.snd.snd.snd.fst (List.length x.snd.snd.snd.snd.snd.snd.snd.snd.snd.snd.snd.snd.snd.fst) then
   bif (List.getD x.snd.snd.snd.snd.snd.snd.snd.snd.snd.snd.snd.snd.snd.fst (Int.toNat x.snd.snd.snd.fst) (0, 0, 0, 0, 0, 0, 0, 0, 0, 0, 0)).fst == 0 then
    bif !((List.getD x.snd.snd.snd.snd.snd.snd.snd.snd.snd.snd.snd.snd.snd.fst (Int.toNat x.snd.snd.snd.fst) (0, 0, 0, 0, 0, 0, 0, 0, 0, 0, 0)).fst == 0 && ((List.getD x.snd.snd.snd.snd.snd.snd.snd.snd.snd.snd.snd.snd.snd.fst (Int.toNat x.snd.snd.snd.fst) (0, 0, 0, 0, 0, 0, 0, 0, 0, 0, 0)).snd.fst == (List.getD x.snd.snd.snd.snd.snd.snd.snd.snd.snd.snd.snd.snd.snd.fst (Int.toNat x.snd.snd.snd.fst) (0, 0, 0, 0, 0, 0, 0, 0, 0, 0, 0)).snd.fst && ((List.getD x.snd.snd.snd.snd.snd.snd.snd.snd.snd.snd.snd.snd.snd.fst (Int.toNat x.snd.snd.snd.fst) (0, 0, 0, 0, 0, 0, 0, 0, 0, 0, 0)).snd.snd.fst == 0 && ((List.getD x.snd.snd.snd.snd.snd.snd.snd.snd.snd.snd.snd.snd.snd.fst (Int.toNat x.snd.snd.snd.fst) (0, 0, 0, 0, 0, 0, 0, 0, 0, 0, 0)).snd.snd.snd.fst == 0 && ((List.getD x.snd.snd.snd.snd.snd.snd.snd.snd.snd.snd.snd.snd.snd.fst (Int.toNat x.snd.snd.snd.fst) (0, 0, 0, 0, 0, 0, 0, 0, 0, 0, 0)).snd.snd.snd.snd.fst == 0 && ((List.getD x.snd.snd.snd.snd.snd.snd.snd.snd.snd.snd.snd.snd.snd.fst (Int.toNat x.snd.snd.snd.fst) (0, 0, 0, 0, 0, 0, 0, 0, 0, 0, 0)).snd.snd.snd.snd.snd.fst == 0 && ((List.getD x.snd.snd.snd.snd.snd.snd.snd.snd.snd.snd.snd.snd.snd.fst (Int.toNat x.snd.snd.snd.fst) (0, 0, 0, 0, 0, 0, 0, 0, 0, 0, 0)).snd.snd.snd.snd.snd.snd.fst == 0 && ((List.getD x.snd.snd.snd.snd.snd.snd.snd.snd.snd.snd.snd.snd.snd.fst (Int.toNat x.snd.snd.snd.fst) (0, 0, 0, 0, 0, 0, 0, 0, 0, 0, 0)).snd.snd.snd.snd.snd.snd.snd.fst == 0 && ((List.getD x.snd.snd.snd.snd.snd.snd.snd.snd.snd.snd.snd.snd.snd.fst (Int.toNat x.snd.snd.snd.fst) (0, 0, 0, 0, 0, 0, 0, 0, 0, 0, 0)).snd.snd.snd.snd.snd.snd.snd.snd.fst == 0 && ((List.getD x.snd.snd.snd.snd.snd.snd.snd.snd.snd.snd.snd.snd.snd.fst (Int.toNat x.snd.snd.snd.fst) (0, 0, 0, 0, 0, 0, 0, 0, 0, 0, 0)).snd.snd.snd.snd.snd.snd.snd.snd.snd.fst == 0 && ((List.getD x.snd.snd.snd.snd.snd.snd.snd.snd.snd.snd.snd.snd.snd.fst (Int.toNat x.snd.snd.snd.fst) (0, 0, 0, 0, 0, 0, 0, 0, 0, 0, 0)).snd.snd.snd.snd.snd.snd.snd.snd.snd.snd == 0 && Bool.true))))))))))) then
     some (Sum.inr (Bool.false, ()))
    else
     bif (List.getD x.snd.snd.snd.snd.snd.snd.snd.snd.snd.snd.snd.snd.snd.fst (Int.toNat x.snd.snd.snd.fst) (0, 0, 0, 0, 0, 0, 0, 0, 0, 0, 0)).fst != 0 then
      bif Decidable.decide ((List.getD x.snd.snd.snd.snd.snd.snd.snd.snd.snd.snd.snd.snd.snd.fst (Int.toNat x.snd.snd.snd.fst) (0, 0, 0, 0, 0, 0, 0, 0, 0, 0, 0)).snd.snd.snd.snd.snd.fst < 1) then
       some (Sum.inr (Bool.false, ()))
      else
       bif Decidable.decide ((List.getD x.snd.snd.snd.snd.snd.snd.snd.snd.snd.snd.snd.snd.snd.fst (Int.toNat x.snd.snd.snd.fst) (0, 0, 0, 0, 0, 0, 0, 0, 0, 0, 0)).snd.snd.snd.snd.snd.fst > (List.getD x.snd.snd.snd.snd.snd.snd.snd.snd.snd.snd.snd.snd.snd.fst (Int.toNat x.snd.snd.snd.fst) (0, 0, 0, 0, 0, 0, 0, 0, 0, 0, 0)).snd.snd.snd.snd.snd.snd.fst) then
        some (Sum.inr (Bool.false, ()))
       else
        bif Decidable.decide ((List.getD x.snd.snd.snd.snd.snd.snd.snd.snd.snd.snd.snd.snd.snd.fst (Int.toNat x.snd.snd.snd.fst) (0, 0, 0, 0, 0, 0, 0, 0, 0, 0, 0)).snd.snd.snd.snd.snd.snd.snd.snd.snd.fst > 9) then
         some (Sum.inr (Bool.false, ()))
        else
         bif Decidable.decide ((List.getD x.snd.snd.snd.snd.snd.snd.snd.snd.snd.snd.snd.snd.snd.fst (Int.toNat x.snd.snd.snd.fst) (0, 0, 0, 0, 0, 0, 0, 0, 0, 0, 0)).snd.snd.snd.snd.snd.snd.snd.snd.snd.snd > 9) then
          some (Sum.inr (Bool.false, ()))
         else
          rec (x.fst, x.snd.fst, x.snd.snd.fst, Go.IntKind.wrap Go.IntKind.i64 (x.snd.snd.snd.fst + 1), x.snd.snd.snd.snd.fst, x.snd.snd.snd.snd.snd.fst, x.snd.snd.snd.snd.snd.snd.fst, x.snd.snd.snd.snd.snd.snd.snd.fst, x.snd.snd.snd.snd.snd.snd.snd.snd.fst, x.snd.snd.snd.snd.snd.snd.snd.snd.snd.fst, x.snd.snd.snd.snd.snd.snd.snd.snd.snd.snd.fst, x.snd.snd.snd.snd.snd.snd.snd.snd.snd.snd.snd.fst, x.snd.snd.snd.snd.snd.snd.snd.snd.snd.snd.snd.snd.fst, x.snd.snd.snd.snd.snd.snd.snd.snd.snd.snd.snd.snd.snd.fst, x.snd.snd.snd.snd.snd.snd.snd.snd.snd.snd.snd.snd.snd.snd.fst, ())
     else
      rec (x.fst, x.snd.fst, x.snd.snd.fst, Go.IntKind.wrap Go.IntKind.i64 (x.snd.snd.snd.fst + 1), x.snd.snd.snd.snd.fst, x.snd.snd.snd.snd.snd.fst, x.snd.snd.snd.snd.snd.snd.fst, x.snd.snd.snd.snd.snd.snd.snd.fst, x.snd.snd.snd.snd.snd.snd.snd.snd.fst, x.snd.snd.snd.snd.snd.snd.snd.snd.snd.fst, x.snd.snd.snd.snd.snd.snd.snd.snd.snd.snd.fst, x.snd.snd.snd.snd.snd.snd.snd.snd.snd.snd.snd.fst, x.snd.snd.snd.snd.snd.snd.snd.snd.snd.snd.snd.snd.fst, x.snd.snd.snd.snd.snd.snd.snd.snd.snd.snd.snd.snd.snd.fst, x.snd.snd.snd.snd.snd.snd.snd.snd.snd.snd.snd.snd.snd.snd.fst, ())
   else
    bif (List.getD x.snd.snd.snd.snd.snd.snd.snd.snd.snd.snd.snd.snd.snd.fst (Int.toNat x.snd.snd.snd.fst) (0, 0, 0, 0, 0, 0, 0, 0, 0, 0, 0)).fst != 0 then
     bif Decidable.decide ((List.getD x.snd.snd.snd.snd.snd.snd.snd.snd.snd.snd.snd.snd.snd.fst (Int.toNat x.snd.snd.snd.fst) (0, 0, 0, 0, 0, 0, 0, 0, 0, 0, 0)).snd.snd.snd.snd.snd.fst < 1) then
      some (Sum.inr (Bool.false, ()))
     else
      bif Decidable.decide ((List.getD x.snd.snd.snd.snd.snd.snd.snd.snd.snd.snd.snd.snd.snd.fst (Int.toNat x.snd.snd.snd.fst) (0, 0, 0, 0, 0, 0, 0, 0, 0, 0, 0)).snd.snd.snd.snd.snd.fst > (List.getD x.snd.snd.snd.snd.snd.snd.snd.snd.snd.snd.snd.snd.snd.fst (Int.toNat x.snd.snd.snd.fst) (0, 0, 0, 0, 0, 0, 0, 0, 0, 0, 0)).snd.snd.snd.snd.snd.snd.fst) then
       some (Sum.inr (Bool.false, ()))
      else
       bif Decidable.decide ((List.getD x.snd.snd.snd.snd.snd.snd.snd.snd.snd.snd.snd.snd.snd.fst (Int.toNat x.snd.snd.snd.fst) (0, 0, 0, 0, 0, 0, 0, 0, 0, 0, 0)).snd.snd.snd.snd.snd.snd.snd.snd.snd.fst > 9) then
        some (Sum.inr (Bool.false, ()))
       else
        bif Decidable.decide ((List.getD x.snd.snd.snd.snd.snd.snd.snd.snd.snd.snd.snd.snd.snd.fst (Int.toNat x.snd.snd.snd.fst) (0, 0, 0, 0, 0, 0, 0, 0, 0, 0, 0)).snd.snd.snd.snd.snd.snd.snd.snd.snd.snd > 9) then
         some (Sum.inr (Bool.false, ()))
        else
         rec (x.fst, x.snd.fst, x.snd.snd.fst, Go.IntKind.wrap Go.IntKind.i64 (x.snd.snd.snd.fst + 1), x.snd.snd.snd.snd.fst, x.snd.snd.snd.snd.snd.fst, x.snd.snd.snd.snd.snd.snd.fst, x.snd.snd.snd.snd.snd.snd.snd.fst, x.snd.snd.snd.snd.snd.snd.snd.snd.fst, x.snd.snd.snd.snd.snd.snd.snd.snd.snd.fst, x.snd.snd.snd.snd.snd.snd.snd.snd.snd.snd.fst, x.snd.snd.snd.snd.snd.snd.snd.snd.snd.snd.snd.fst, x.snd.snd.snd.snd.snd.snd.snd.snd.snd.snd.snd.snd.fst, x.snd.snd.snd.snd.snd.snd.snd.snd.snd.snd.snd.snd.snd.fst, x.snd.snd.snd.snd.snd.snd.snd.snd.snd.snd.snd.snd.snd.snd.fst, ())
    else
     rec (x.fst, x.snd.fst, x.snd.snd.fst, Go.IntKind.wrap Go.IntKind.i64 (x.snd.snd.snd.fst + 1), x.snd.snd.snd.snd.fst, x.snd.snd.snd.snd.snd.fst, x.snd.snd.snd.snd.snd.snd.fst, x.snd.snd.snd.snd.snd.snd.snd.fst, x.snd.snd.snd.snd.snd.snd.snd.snd.fst, x.snd.snd.snd.snd.snd.snd.snd.snd.snd.fst, x.snd.snd.snd.snd.snd.snd.snd.snd.snd.snd.fst, x.snd.snd.snd.snd.snd.snd.snd.snd.snd.snd.snd.fst, x.snd.snd.snd.snd.snd.snd.snd.snd.snd.snd.snd.snd.fst, x.snd.snd.snd.snd.snd.snd.snd.snd.snd.snd.snd.snd.snd.fst, x.snd.snd.snd.snd.snd.snd.snd.snd.snd.snd.snd.snd.snd.snd.fst, ())
  else
   none
 else
  f5.L2 k0 ((x.fst, x.snd.fst, x.snd.snd.fst, 0, x.snd.snd.snd.snd.fst, x.snd.snd.snd.snd.snd.fst, x.snd.snd.snd.snd.snd.snd.fst, x.snd.snd.snd.snd.snd.snd.snd.fst, x.snd.snd.snd.snd.snd.snd.snd.snd.fst, x.snd.snd.snd.snd.snd.snd.snd.snd.snd.fst, x.snd.snd.snd.snd.snd.snd.snd.snd.snd.snd.fst, x.snd.snd.snd.snd.snd.snd.snd.snd.snd.snd.snd.fst, x.snd.snd.snd.snd.snd.snd.snd.snd.snd.snd.snd.snd.fst, x.snd.snd.snd.snd.snd.snd.snd.snd.snd.snd.snd.snd.snd.fst, x.snd.snd.snd.snd.snd.snd.snd.snd.snd.snd.snd.snd.snd.snd.fst, ()))
 ) (100000000000000000000) (x)
def f5.L4 (x : List Int × List Int × Int × Int × Int × Int × Int × Int × Int × Int × Int × List Int × List (Int × Int × Int × Int × Int × Int × Int × Int × Int × Int × Int) × List (Int × Int × Int × Int) × Unit) : Option (Int × Int × Int × Int × Int × Int × Int × Int × List Int × List (Int × Int × Int × Int × Int × Int × Int × Int × Int × Int × Int) × List (Int × Int × Int × Int) × Unit ⊕ Bool × Unit) :=
 it (X := List Int × List Int × Int × Int × Int × Int × Int × Int × Int × Int × Int × List Int × List (Int × Int × Int × Int × Int × Int × Int × Int × Int × Int × Int) × List (Int × Int × Int × Int) × Unit) (fun rec x =>
 bif Decidable.decide (x.snd.snd.fst < (↑(List.length x.fst) : Int)) then
  bif Decidable.decide (x.snd.snd.fst < (↑(List.length x.snd.fst) : Int)) then
   bif Decidable.decide (x.snd.snd.fst < 20) then
    bif inRange x.snd.snd.fst (List.length x.fst) then
     Option.bind (f9 (List.getD x.fst (Int.toNat x.snd.snd.fst) 0) 32) fun y0 =>
      bif inRange x.snd.snd.fst (List.length x.snd.fst) then
       Option.bind (f9 (List.getD x.snd.fst (Int.toNat x.snd.snd.fst) 0) 32) fun y1 =>
        Option.bind (f14 x.snd.snd.snd.fst x.snd.snd.snd.snd.fst x.snd.snd.snd.snd.snd.fst x.snd.snd.snd.snd.snd.snd.fst x.snd.snd.snd.snd.snd.snd.snd.snd.snd.snd.snd.fst x.snd.snd.snd.snd.snd.snd.snd.snd.snd.snd.snd.snd.fst x.snd.snd.snd.snd.snd.snd.snd.snd.snd.snd.snd.snd.snd.fst x.snd.snd.snd.snd.snd.snd.snd.fst x.snd.snd.snd.snd.snd.snd.snd.snd.fst x.snd.snd.snd.snd.snd.snd.snd.snd.snd.fst x.snd.snd.snd.snd.snd.snd.snd.snd.snd.snd.fst y0.fst y1.fst) fun y2 =>
         Option.bind (α := List Int × List Int × Int × Int × Int × Int × Int × Int × Int × Int × Int × List Int × List (Int × Int × Int × Int × Int × Int × Int × Int × Int × Int × Int) × List (Int × Int × Int × Int) × Unit ⊕ Int × Int × Int × Int × Int × Int × Int × Int × List Int × List (Int × Int × Int × Int × Int × Int × Int × Int × Int × Int × Int) × List (Int × Int × Int × Int) × Unit ⊕ Bool × Unit) (
          bif Int.tmod x.snd.snd.fst 2 == 0 then
           Option.bind (f20 y2.fst y2.snd.fst y2.snd.snd.fst y2.snd.snd.snd.fst y2.snd.snd.snd.snd.snd.snd.snd.snd.fst y2.snd.snd.snd.snd.snd.snd.snd.snd.snd.fst y2.snd.snd.snd.snd.snd.snd.snd.snd.snd.snd.fst y2.snd.snd.snd.snd.fst y2.snd.snd.snd.snd.snd.fst y2.snd.snd.snd.snd.snd.snd.fst y2.snd.snd.snd.snd.snd.snd.snd.fst) fun y3 =>
            some (Sum.inl (x.fst, x.snd.fst, x.snd.snd.fst, y3.fst, y3.snd.fst, y3.snd.snd.fst, y3.snd.snd.snd.fst, y3.snd.snd.snd.snd.fst, y3.snd.snd.snd.snd.snd.fst, y3.snd.snd.snd.snd.snd.snd.fst, y3.snd.snd.snd.snd.snd.snd.snd.fst, y3.snd.snd.snd.snd.snd.snd.snd.snd.fst, y3.snd.snd.snd.snd.snd.snd.snd.snd.snd.fst, y3.snd.snd.snd.snd.snd.snd.snd.snd.snd.snd.fst, ()))
          else
           some (Sum.inl (x.fst, x.snd.fst, x.snd.snd.fst, y2.fst, y2.snd.fst, y2.snd.snd.fst, y2.snd.snd.snd.fst, y2.snd.snd.snd.snd.fst, y2.snd.snd.snd.snd.snd.fst, y2.snd.snd.snd.snd.snd.snd.fst, y2.snd.snd.snd.snd.snd.snd.snd.fst, y2.snd.snd.snd.snd.snd.snd.snd.snd.fst, y2.snd.snd.snd.snd.snd.snd.snd.snd.snd.fst, y2.snd.snd.snd.snd.snd.snd.snd.snd.snd.snd.fst, ()))
         ) fun y4 =>
          Sum.elim (fun y5 =>
           f5.L3 rec ((y5.fst, y5.snd.fst, y5.snd.snd.fst, 0, y5.snd.snd.snd.fst, y5.snd.snd.snd.snd.fst, y5.snd.snd.snd.snd.snd.fst, y5.snd.snd.snd.snd.snd.snd.fst, y5.snd.snd.snd.snd.snd.snd.snd.fst, y5.snd.snd.snd.snd.snd.snd.snd.snd.fst, y5.snd.snd.snd.snd.snd.snd.snd.snd.snd.fst, y5.snd.snd.snd.snd.snd.snd.snd.snd.snd.snd.fst, y5.snd.snd.snd.snd.snd.snd.snd.snd.snd.snd.snd.fst, y5.snd.snd.snd.snd.snd.snd.snd.snd.snd.snd.snd.snd.fst, y5.snd.snd.snd.snd.snd.snd.snd.snd.snd.snd.snd.snd.snd.fst, ()))
          ) (fun z6 =>
           some (z6)
          ) (y4)
      else
       none
    else
     none
   else
    some (Sum.inl (x.snd.snd.snd.fst, x.snd.snd.snd.snd.fst, x.snd.snd.snd.snd.snd.fst, x.snd.snd.snd.snd.snd.snd.fst, x.snd.snd.snd.snd.snd.snd.snd.fst, x.snd.snd.snd.snd.snd.snd.snd.snd.fst, x.snd.snd.snd.snd.snd.snd.snd.snd.snd.fst, x.snd.snd.snd.snd.snd.snd.snd.snd.snd.snd.fst, x.snd.snd.snd.snd.snd.snd.snd.snd.snd.snd.snd.fst, x.snd.snd.snd.snd.snd.snd.snd.snd.snd.snd.snd.snd.fst, x.snd.snd.snd.snd.snd.snd.snd.snd.snd.snd.snd.snd.snd.fst, ()))
  else
   some (Sum.inl (x.snd.snd.snd.fst, x.snd.snd.snd.snd.fst, x.snd.snd.snd.snd.snd.fst, x.snd.snd.snd.snd.snd.snd.fst, x.snd.snd.snd.snd.snd.snd.snd.fst, x.snd.snd.snd.snd.snd.snd.snd.snd.fst, x.snd.snd.snd.snd.snd.snd.snd.snd.snd.fst, x.snd.snd.snd.snd.snd.snd.snd.snd.snd.snd.fst, x.snd.snd.snd.snd.snd.snd.snd.snd.snd.snd.snd.fst, x.snd.snd.snd.snd.snd.snd.snd.snd.snd.snd.snd.snd.fst, x.snd.snd.snd.snd.snd.snd.snd.snd.snd.snd.snd.snd.snd.fst, ()))
 else
  some (Sum.inl (x.snd.snd.snd.fst, x.snd.snd.snd.snd.fst, x.snd.snd.snd.snd.snd.fst, x.snd.snd.snd.snd.snd.snd.fst, x.snd.snd.snd.snd.snd.snd.snd.fst, x.snd.snd.snd.snd.snd.snd.snd.snd.fst, x.snd.snd.snd.snd.snd.snd.snd.snd.snd.fst, x.snd.snd.snd.snd.snd.snd.snd.snd.snd.snd.fst, x.snd.snd.snd.snd.snd.snd.snd.snd.snd.snd.snd.fst, x.snd.snd.snd.snd.snd.snd.snd.snd.snd.snd.snd.snd.fst, x.snd.snd.snd.snd.snd.snd.snd.snd.snd.snd.snd.snd.snd.fst, ()))
 ) (100000000000000000000) (x)
def f5 (a0 : Int) (a1 : Int) (a2 : List Int) (a3 : List (Int × Int × Int × Int)) (a4 : Int) (a5 : List Int) (a6 : List Int) : Option (Bool × Unit) :=
 Option.bind (f7) fun y0 =>
  bif !y0.fst then
   some ((Bool.false, ()))
  else
   Option.bind (f15 a0 a1 a2 a3 a4) fun y1 =>
    Option.bind (α := Int × Int × Int × Int × Int × Int × Int × Int × List Int × List (Int × Int × Int × Int × Int × Int × Int × Int × Int × Int × Int) × List (Int × Int × Int × Int) × Unit ⊕ Bool × Unit) (
     f5.L4 ((a5, a6, 0, y1.fst, y1.snd.fst, y1.snd.snd.fst, y1.snd.snd.snd.fst, y1.snd.snd.snd.snd.fst, y1.snd.snd.snd.snd.snd.fst, y1.snd.snd.snd.snd.snd.snd.fst, y1.snd.snd.snd.snd.snd.snd.snd.fst, y1.snd.snd.snd.snd.snd.snd.snd.snd.fst, y1.snd.snd.snd.snd.snd.snd.snd.snd.snd.fst, y1.snd.snd.snd.snd.snd.snd.snd.snd.snd.snd.fst, ()))
    ) fun y2 =>
     Sum.elim (fun y3 =>
      Option.bind (f23 y3.fst y3.snd.fst y3.snd.snd.fst y3.snd.snd.snd.fst y3.snd.snd.snd.snd.snd.snd.snd.snd.fst y3.snd.snd.snd.snd.snd.snd.snd.snd.snd.fst y3.snd.snd.snd.snd.snd.snd.snd.snd.snd.snd.fst y3.snd.snd.snd.snd.fst y3.snd.snd.snd.snd.snd.fst y3.snd.snd.snd.snd.snd.snd.fst y3.snd.snd.snd.snd.snd.snd.snd.fst) fun y5 =>
       some ((y5.fst, ()))
     ) (fun z4 =>
      some (z4)
     ) (y2)
def f5.ins : Shape := ⟨[(0, .c (.int .i64)), (1, .c (.int .i64)), (2, .c (.row (.int .i64))), (3, .c (.row (.prod (.int .i64) (.prod (.int .i64) (.prod (.int .i64) (.int .i64)))))), (4, .c (.int .i64)), (5, .c (.row (.int .i64))), (6, .c (.row (.int .i64)))], []⟩
def f5.outs : List Shape := [⟨[(0, .c (.bool))], []⟩]
def f5.S : FnSpec := ⟨f5.ins, f5.outs, [], fun x => f5 x.1 x.2.1 x.2.2.1 x.2.2.2.1 x.2.2.2.2.1 x.2.2.2.2.2.1 x.2.2.2.2.2.2.1⟩
def f5.E (fuel : Nat) : Env := ⟨tisC, [(9, f9.S), (10, f10.S), (15, f15.S), (14, f14.S), (7, f7.S), (20, f20.S), (23, f23.S)], [(33, [.int .i64, .int .i64, .int .i64, .int .i64, .int .i64, .int .i64, .int .i64, .int .i64, .int .i64, .int .i64, .int .i64])], [(11, ⟨[(5, .c (.row (.int .i64))), (6, .c (.row (.int .i64))), (15, .c (.ptr 0 0)), (16, .c (.int .i64))], [(0, .box [.int .i64, .int .i64, .int .i64, .int .i64, .own 1, .own 2, .own 3, .int .i64, .int .i64, .int .i64, .int .i64]), (1, .arr (.int .u8)), (2, .arr (.prod (.int .i64) (.prod (.int .i64) (.prod (.int .i64) (.prod (.int .i64) (.prod (.int .i64) (.prod (.int .i64) (.prod (.int .i64) (.prod (.int .i64) (.prod (.int .i64) (.prod (.int .i64) (.int .i64)))))))))))), (3, .arr (.prod (.int .i64) (.prod (.int .i64) (.prod (.int .i64) (.int .i64)))))]⟩), (25, ⟨[(15, .c (.ptr 0 0))], [(0, .box [.int .i64, .int .i64, .int .i64, .int .i64, .own 1, .own 2, .own 3, .int .i64, .int .i64, .int .i64, .int .i64]), (1, .arr (.int .u8)), (2, .arr (.prod (.int .i64) (.prod (.int .i64) (.prod (.int .i64) (.prod (.int .i64) (.prod (.int .i64) (.prod (.int .i64) (.prod (.int .i64) (.prod (.int .i64) (.prod (.int .i64) (.prod (.int .i64) (.int .i64)))))))))))), (3, .arr (.prod (.int .i64) (.prod (.int .i64) (.prod (.int .i64) (.int .i64)))))]⟩)], [(6, ⟨[(5, .c (.row (.int .i64))), (6, .c (.row (.int .i64))), (15, .c (.ptr 0 0)), (16, .c (.int .i64))], [(0, .box [.int .i64, .int .i64, .int .i64, .int .i64, .own 1, .own 2, .own 3, .int .i64, .int .i64, .int .i64, .int .i64]), (1, .arr (.int .u8)), (2, .arr (.prod (.int .i64) (.prod (.int .i64) (.prod (.int .i64) (.prod (.int .i64) (.prod (.int .i64) (.prod (.int .i64) (.prod (.int .i64) (.prod (.int .i64) (.prod (.int .i64) (.prod (.int .i64) (.int .i64)))))))))))), (3, .arr (.prod (.int .i64) (.prod (.int .i64) (.prod (.int .i64) (.int .i64)))))]⟩), (12, ⟨[(5, .c (.row (.int .i64))), (6, .c (.row (.int .i64))), (15, .c (.ptr 0 0)), (16, .c (.int .i64)), (17, .c (.int .i64))], [(0, .box [.int .i64, .int .i64, .int .i64, .int .i64, .own 1, .own 2, .own 3, .int .i64, .int .i64, .int .i64, .int .i64]), (1, .arr (.int .u8)), (2, .arr (.prod (.int .i64) (.prod (.int .i64) (.prod (.int .i64) (.prod (.int .i64) (.prod (.int .i64) (.prod (.int .i64) (.prod (.int .i64) (.prod (.int .i64) (.prod (.int .i64) (.prod (.int .i64) (.int .i64)))))))))))), (3, .arr (.prod (.int .i64) (.prod (.int .i64) (.prod (.int .i64) (.int .i64)))))]⟩), (18, ⟨[(5, .c (.row (.int .i64))), (6, .c (.row (.int .i64))), (15, .c (.ptr 0 0)), (16, .c (.int .i64)), (19, .c (.int .i64))], [(0, .box [.int .i64, .int .i64, .int .i64, .int .i64, .own 1, .own 2, .own 3, .int .i64, .int .i64, .int .i64, .int .i64]), (1, .arr (.int .u8)), (2, .arr (.prod (.int .i64) (.prod (.int .i64) (.prod (.int .i64) (.prod (.int .i64) (.prod (.int .i64) (.prod (.int .i64) (.prod (.int .i64) (.prod (.int .i64) (.prod (.int .i64) (.prod (.int .i64) (.int .i64)))))))))))), (3, .arr (.prod (.int .i64) (.prod (.int .i64) (.prod (.int .i64) (.int .i64)))))]⟩), (21, ⟨[(5, .c (.row (.int .i64))), (6, .c (.row (.int .i64))), (15, .c (.ptr 0 0)), (16, .c (.int .i64)), (19, .c (.int .i64)), (20, .c (.int .i64))], [(0, .box [.int .i64, .int .i64, .int .i64, .int .i64, .own 1, .own 2, .own 3, .int .i64, .int .i64, .int .i64, .int .i64]), (1, .arr (.int .u8)), (2, .arr (.prod (.int .i64) (.prod (.int .i64) (.prod (.int .i64) (.prod (.int .i64) (.prod (.int .i64) (.prod (.int .i64) (.prod (.int .i64) (.prod (.int .i64) (.prod (.int .i64) (.prod (.int .i64) (.int .i64)))))))))))), (3, .arr (.prod (.int .i64) (.prod (.int .i64) (.prod (.int .i64) (.int .i64)))))]⟩)], [], 0, [], fuel⟩
theorem f5.run : ∀ x, runFn (f5.E 100000000000000000000) Go.Proofs.Try.f5 ((Go.Proofs.Try.f5.body).getD .skip) f5.S x = f5.S.f x := by intro x; kernel_rfl
theorem f5.sound : Sound Go.Proofs.Try.prog 5 f5.S := sound_of_run (fun _ => f5.E 100000000000000000000) (by kernel_rfl) (by kernel_rfl) (by kernel_rfl) ordersC (fun _ => ⟨tisC_ok, (EqsOk.cons eqC33 (EqsOk.nil _)), (FnsOk.cons f9.sound (FnsOk.cons f10.sound (FnsOk.cons f15.sound (FnsOk.cons f14.sound (FnsOk.cons f7.sound (FnsOk.cons f20.sound (FnsOk.cons f23.sound FnsOk.nil)))))))⟩) (fun _ => rfl) (by kernel_rfl) (by kernel_rfl) (fun x r h => (f5.run x).trans h)
/-! f6: adit/aditlaw8.FightPoison -/
def f6.L1 (x : Int × Int × Int × Int × Int × Int × Int × Int × Int × Int × Int × Int × Int × Int × List Int × List (Int × Int × Int × Int × Int × Int × Int × Int × Int × Int × Int) × List (Int × Int × Int × Int) × Unit) : Option (Bool × Unit) :=
 it (X := Int × Int × Int × Int × Int × Int × Int × Int × Int × Int × Int × Int × Int × Int × List Int × List (Int × Int × Int × Int × Int × Int × Int × Int × Int × Int × Int) × List (Int × Int × Int × Int) × Unit) (fun rec x =>
 bif Decidable.decide (x.snd.snd.snd.snd.snd.fst < x.snd.snd.snd.fst) then
  Option.bind (f20 x.snd.snd.snd.snd.snd.snd.fst x.snd.snd.snd.snd.snd.snd.snd.fst x.snd.snd.snd.snd.snd.snd.snd.snd.fst x.snd.snd.snd.snd.snd.snd.snd.snd.snd.fst x.snd.snd.snd.snd.snd.snd.snd.snd.snd.snd.snd.snd.snd.snd.fst x.snd.snd.snd.snd.snd.snd.snd.snd.snd.snd.snd.snd.snd.snd.snd.fst x.snd.snd.snd.snd.snd.snd.snd.snd.snd.snd.snd.snd.snd.snd.snd.snd.fst x.snd.snd.snd.snd.snd.snd.snd.snd.snd.snd.fst x.snd.snd.snd.snd.snd.snd.snd.snd.snd.snd.snd.fst x.snd.snd.snd.snd.snd.snd.snd.snd.snd.snd.snd.snd.fst x.snd.snd.snd.snd.snd.snd.snd.snd.snd.snd.snd.snd.snd.fst) fun y0 =>
   rec (x.fst, x.snd.fst, x.snd.snd.fst, x.snd.snd.snd.fst, x.snd.snd.snd.snd.fst, Go.IntKind.wrap Go.IntKind.i64 (x.snd.snd.snd.snd.snd.fst + 1), y0.fst, y0.snd.fst, y0.snd.snd.fst, y0.snd.snd.snd.fst, y0.snd.snd.snd.snd.fst, y0.snd.snd.snd.snd.snd.fst, y0.snd.snd.snd.snd.snd.snd.fst, y0.snd.snd.snd.snd.snd.snd.snd.fst, y0.snd.snd.snd.snd.snd.snd.snd.snd.fst, y0.snd.snd.snd.snd.snd.snd.snd.snd.snd.fst, y0.snd.snd.snd.snd.snd.snd.snd.snd.snd.snd.fst, ())
 else
  bif Decidable.decide (minI x.snd.snd.snd.fst x.snd.fst ≥ x.fst) then
   bif inRange x.snd.snd.snd.snd.fst (List.length x.snd.snd.snd.snd.snd.snd.snd.snd.snd.snd.snd.snd.snd.snd.snd.fst) then
    some (((List.getD x.snd.snd.snd.snd.snd.snd.snd.snd.snd.snd.snd.snd.snd.snd.snd.fst (Int.toNat x.snd.snd.snd.snd.fst) (0, 0, 0, 0, 0, 0, 0, 0, 0, 0, 0)).fst == 0, ()))
   else
    none
  else
   bif inRange x.snd.snd.snd.snd.fst (List.length x.snd.snd.snd.snd.snd.snd.snd.snd.snd.snd.snd.snd.snd.snd.snd.fst) then
    bif (List.getD x.snd.snd.snd.snd.snd.snd.snd.snd.snd.snd.snd.snd.snd.snd.snd.fst (Int.toNat x.snd.snd.snd.snd.fst) (0, 0, 0, 0, 0, 0, 0, 0, 0, 0, 0)).snd.snd.snd.snd.snd.fst == Go.IntKind.wrap Go.IntKind.i64 (x.fst - minI x.snd.snd.snd.fst x.snd.fst) then
     bif inRange x.snd.snd.snd.snd.fst (List.length x.snd.snd.snd.snd.snd.snd.snd.snd.snd.snd.snd.snd.snd.snd.snd.fst) then
      bif (List.getD x.snd.snd.snd.snd.snd.snd.snd.snd.snd.snd.snd.snd.snd.snd.snd.fst (Int.toNat x.snd.snd.snd.snd.fst) (0, 0, 0, 0, 0, 0, 0, 0, 0, 0, 0)).snd.snd.snd.snd.snd.snd.snd.snd.snd.fst == Go.IntKind.wrap Go.IntKind.i64 (x.snd.fst - minI x.snd.snd.snd.fst x.snd.fst) then
       bif inRange x.snd.snd.snd.snd.fst (List.length x.snd.snd.snd.snd.snd.snd.snd.snd.snd.snd.snd.snd.snd.snd.snd.fst) then
        some (((List.getD x.snd.snd.snd.snd.snd.snd.snd.snd.snd.snd.snd.snd.snd.snd.snd.fst (Int.toNat x.snd.snd.snd.snd.fst) (0, 0, 0, 0, 0, 0, 0, 0, 0, 0, 0)).snd.snd.snd.snd.snd.snd.snd.snd.snd.snd == maxI 0 (Go.IntKind.wrap Go.IntKind.i64 (x.snd.snd.fst - x.snd.snd.snd.fst)), ()))
       else
        none
      else
       some ((Bool.false, ()))
     else
      none
    else
     some ((Bool.false, ()))
   else
    none
 ) (100000000000000000000) (x)
def f6 (a0 : Int) (a1 : Int) (a2 : Int) (a3 : Int) (a4 : Int) : Option (Bool × Unit) :=
 Option.bind (f7) fun y0 =>
  bif !y0.fst then
   some ((Bool.false, ()))
  else
   Option.bind (f8 3 0 0 1 [] 0) fun y1 =>
    Option.bind (f10 y1.snd.snd.snd.snd.snd.snd.snd.snd.snd.fst 0) fun y2 =>
     Option.bind (f9 a1 20) fun y3 =>
      Option.bind (f9 a2 10) fun y4 =>
       Option.bind (f9 a3 10) fun y5 =>
        bif inRange y2.fst (List.length y1.snd.snd.snd.snd.snd.snd.snd.snd.snd.fst) then
         let s0 : List (Int × Int × Int × Int × Int × Int × Int × Int × Int × Int × Int) := List.set y1.snd.snd.snd.snd.snd.snd.snd.snd.snd.fst (Int.toNat y2.fst) ((List.getD y1.snd.snd.snd.snd.snd.snd.snd.snd.snd.fst (Int.toNat y2.fst) (0, 0, 0, 0, 0, 0, 0, 0, 0, 0, 0)).fst, (List.getD y1.snd.snd.snd.snd.snd.snd.snd.snd.snd.fst (Int.toNat y2.fst) (0, 0, 0, 0, 0, 0, 0, 0, 0, 0, 0)).snd.fst, (List.getD y1.snd.snd.snd.snd.snd.snd.snd.snd.snd.fst (Int.toNat y2.fst) (0, 0, 0, 0, 0, 0, 0, 0, 0, 0, 0)).snd.snd.fst, (List.getD y1.snd.snd.snd.snd.snd.snd.snd.snd.snd.fst (Int.toNat y2.fst) (0, 0, 0, 0, 0, 0, 0, 0, 0, 0, 0)).snd.snd.snd.fst, (List.getD y1.snd.snd.snd.snd.snd.snd.snd.snd.snd.fst (Int.toNat y2.fst) (0, 0, 0, 0, 0, 0, 0, 0, 0, 0, 0)).snd.snd.snd.snd.fst, Go.IntKind.wrap Go.IntKind.i64 (1 + y3.fst), (List.getD y1.snd.snd.snd.snd.snd.snd.snd.snd.snd.fst (Int.toNat y2.fst) (0, 0, 0, 0, 0, 0, 0, 0, 0, 0, 0)).snd.snd.snd.snd.snd.snd.fst, (List.getD y1.snd.snd.snd.snd.snd.snd.snd.snd.snd.fst (Int.toNat y2.fst) (0, 0, 0, 0, 0, 0, 0, 0, 0, 0, 0)).snd.snd.snd.snd.snd.snd.snd.fst, (List.getD y1.snd.snd.snd.snd.snd.snd.snd.snd.snd.fst (Int.toNat y2.fst) (0, 0, 0, 0, 0, 0, 0, 0, 0, 0, 0)).snd.snd.snd.snd.snd.snd.snd.snd.fst, (List.getD y1.snd.snd.snd.snd.snd.snd.snd.snd.snd.fst (Int.toNat y2.fst) (0, 0, 0, 0, 0, 0, 0, 0, 0, 0, 0)).snd.snd.snd.snd.snd.snd.snd.snd.snd.fst, (List.getD y1.snd.snd.snd.snd.snd.snd.snd.snd.snd.fst (Int.toNat y2.fst) (0, 0, 0, 0, 0, 0, 0, 0, 0, 0, 0)).snd.snd.snd.snd.snd.snd.snd.snd.snd.snd)
         bif inRange y2.fst (List.length s0) then
          let s1 : List (Int × Int × Int × Int × Int × Int × Int × Int × Int × Int × Int) := List.set s0 (Int.toNat y2.fst) ((List.getD s0 (Int.toNat y2.fst) (0, 0, 0, 0, 0, 0, 0, 0, 0, 0, 0)).fst, (List.getD s0 (Int.toNat y2.fst) (0, 0, 0, 0, 0, 0, 0, 0, 0, 0, 0)).snd.fst, (List.getD s0 (Int.toNat y2.fst) (0, 0, 0, 0, 0, 0, 0, 0, 0, 0, 0)).snd.snd.fst, (List.getD s0 (Int.toNat y2.fst) (0, 0, 0, 0, 0, 0, 0, 0, 0, 0, 0)).snd.snd.snd.fst, (List.getD s0 (Int.toNat y2.fst) (0, 0, 0, 0, 0, 0, 0, 0, 0, 0, 0)).snd.snd.snd.snd.fst, (List.getD s0 (Int.toNat y2.fst) (0, 0, 0, 0, 0, 0, 0, 0, 0, 0, 0)).snd.snd.snd.snd.snd.fst, (List.getD s0 (Int.toNat y2.fst) (0, 0, 0, 0, 0, 0, 0, 0, 0, 0, 0)).snd.snd.snd.snd.snd.snd.fst, (List.getD s0 (Int.toNat y2.fst) (0, 0, 0, 0, 0, 0, 0, 0, 0, 0, 0)).snd.snd.snd.snd.snd.snd.snd.fst, (List.getD s0 (Int.toNat y2.fst) (0, 0, 0, 0, 0, 0, 0, 0, 0, 0, 0)).snd.snd.snd.snd.snd.snd.snd.snd.fst, y4.fst, (List.getD s0 (Int.toNat y2.fst) (0, 0, 0, 0, 0, 0, 0, 0, 0, 0, 0)).snd.snd.snd.snd.snd.snd.snd.snd.snd.snd)
          bif inRange y2.fst (List.length s1) then
           let s2 : List (Int × Int × Int × Int × Int × Int × Int × Int × Int × Int × Int) := List.set s1 (Int.toNat y2.fst) ((List.getD s1 (Int.toNat y2.fst) (0, 0, 0, 0, 0, 0, 0, 0, 0, 0, 0)).fst, (List.getD s1 (Int.toNat y2.fst) (0, 0, 0, 0, 0, 0, 0, 0, 0, 0, 0)).snd.fst, (List.getD s1 (Int.toNat y2.fst) (0, 0, 0, 0, 0, 0, 0, 0, 0, 0, 0)).snd.snd.fst, (List.getD s1 (Int.toNat y2.fst) (0, 0, 0, 0, 0, 0, 0, 0, 0, 0, 0)).snd.snd.snd.fst, (List.getD s1 (Int.toNat y2.fst) (0, 0, 0, 0, 0, 0, 0, 0, 0, 0, 0)).snd.snd.snd.snd.fst, (List.getD s1 (Int.toNat y2.fst) (0, 0, 0, 0, 0, 0, 0, 0, 0, 0, 0)).snd.snd.snd.snd.snd.fst, (List.getD s1 (Int.toNat y2.fst) (0, 0, 0, 0, 0, 0, 0, 0, 0, 0, 0)).snd.snd.snd.snd.snd.snd.fst, (List.getD s1 (Int.toNat y2.fst) (0, 0, 0, 0, 0, 0, 0, 0, 0, 0, 0)).snd.snd.snd.snd.snd.snd.snd.fst, (List.getD s1 (Int.toNat y2.fst) (0, 0, 0, 0, 0, 0, 0, 0, 0, 0, 0)).snd.snd.snd.snd.snd.snd.snd.snd.fst, (List.getD s1 (Int.toNat y2.fst) (0, 0, 0, 0, 0, 0, 0, 0, 0, 0, 0)).snd.snd.snd.snd.snd.snd.snd.snd.snd.fst, y5.fst)
           bif inRange y2.fst (List.length s2) then
            bif inRange y2.fst (List.length s2) then
             bif inRange y2.fst (List.length s2) then
              Option.bind (f9 a4 12) fun y6 =>
               f6.L1 (((List.getD s2 (Int.toNat y2.fst) (0, 0, 0, 0, 0, 0, 0, 0, 0, 0, 0)).snd.snd.snd.snd.snd.fst, (List.getD s2 (Int.toNat y2.fst) (0, 0, 0, 0, 0, 0, 0, 0, 0, 0, 0)).snd.snd.snd.snd.snd.snd.snd.snd.snd.fst, (List.getD s2 (Int.toNat y2.fst) (0, 0, 0, 0, 0, 0, 0, 0, 0, 0, 0)).snd.snd.snd.snd.snd.snd.snd.snd.snd.snd, y6.fst, y2.fst, 0, y1.fst, y1.snd.fst, y1.snd.snd.fst, y1.snd.snd.snd.fst, y1.snd.snd.snd.snd.fst, y1.snd.snd.snd.snd.snd.fst, y1.snd.snd.snd.snd.snd.snd.fst, y1.snd.snd.snd.snd.snd.snd.snd.fst, y1.snd.snd.snd.snd.snd.snd.snd.snd.fst, s2, y1.snd.snd.snd.snd.snd.snd.snd.snd.snd.snd.fst, ()))
             else
              none
            else
             none
           else
            none
          else
           none
         else
          none
        else
         none
def f6.ins : Shape := ⟨[(0, .c (.int .i64)), (1, .c (.int .i64)), (2, .c (.int .i64)), (3, .c (.int .i64)), (4, .c (.int .i64))], []⟩
def f6.outs : List Shape := [⟨[(0, .c (.bool))], []⟩]
def f6.S : FnSpec := ⟨f6.ins, f6.outs, [], fun x => f6 x.1 x.2.1 x.2.2.1 x.2.2.2.1 x.2.2.2.2.1⟩
def f6.E (fuel : Nat) : Env := ⟨tisC, [(8, f8.S), (9, f9.S), (10, f10.S), (7, f7.S), (20, f20.S)], [], [], [(10, ⟨[(1, .c (.int .i64)), (2, .c (.int .i64)), (3, .c (.int .i64)), (4, .c (.int .i64)), (11, .c (.ptr 0 0)), (12, .c (.int .i64)), (13, .c (.int .i64))], [(0, .box [.int .i64, .int .i64, .int .i64, .int .i64, .own 1, .own 2, .own 3, .int .i64, .int .i64, .int .i64, .int .i64]), (1, .arr (.int .u8)), (2, .arr (.prod (.int .i64) (.prod (.int .i64) (.prod (.int .i64) (.prod (.int .i64) (.prod (.int .i64) (.prod (.int .i64) (.prod (.int .i64) (.prod (.int .i64) (.prod (.int .i64) (.prod (.int .i64) (.int .i64)))))))))))), (3, .arr (.prod (.int .i64) (.prod (.int .i64) (.prod (.int .i64) (.int .i64)))))]⟩)], [], 0, [], fuel⟩
theorem f6.run : ∀ x, runFn (f6.E 100000000000000000000) Go.Proofs.Try.f6 ((Go.Proofs.Try.f6.body).getD .skip) f6.S x = f6.S.f x := by intro x; kernel_rfl
theorem f6.sound : Sound Go.Proofs.Try.prog 6 f6.S := sound_of_run (fun _ => f6.E 100000000000000000000) (by kernel_rfl) (by kernel_rfl) (by kernel_rfl) ordersC (fun _ => ⟨tisC_ok, EqsOk.nil _, (FnsOk.cons f8.sound (FnsOk.cons f9.sound (FnsOk.cons f10.sound (FnsOk.cons f7.sound (FnsOk.cons f20.sound FnsOk.nil)))))⟩) (fun _ => rfl) (by kernel_rfl) (by kernel_rfl) (fun x r h => (f6.run x).trans h)
end
end Go.Proofs.Yteaglfpppihpjaa.Run

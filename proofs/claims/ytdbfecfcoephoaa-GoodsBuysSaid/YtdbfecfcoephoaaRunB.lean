/- Functions of the program as Lean functions: printed by a tool of this session (own work). -/
import Derived.Test.YtdbfecfcoephoaaProg
import Derived.Test.YtdbfecfcoephoaaMxY
import Derived.Test.YtdbfecfcoephoaaRun
import Derived.Test.YtdbfecfcoephoaaMxZc
namespace Go.Proofs.Ytdbfecfcoephoaa.Run
open Go Go.Proofs.Ytdbfecfcoephoaa.Mx
set_option autoImplicit false
set_option linter.unusedVariables false
set_option maxRecDepth 100000
set_option maxHeartbeats 4000000
noncomputable section
def tyB2 : TI := ⟨.int .i64, 1, 8, [.int .i64 0], some (.int .i64)⟩
def tyB3 : TI := ⟨.int .i64, 1, 8, [.int .i64 0], some (.int .i64)⟩
def tyB4 : TI := ⟨.bool, 1, 1, [.bool false], some .bool⟩
def tyB5 : TI := ⟨.int .u8, 1, 1, [.int .u8 0], some (.int .u8)⟩
def tyB9 : TI := ⟨.str, 1, 16, [.str ⟨#[]⟩], some .str⟩
def tyB22 : TI := ⟨.slice 38, 1, 24, [.nils], some (.row (.prod (.int .i64) (.prod (.int .i64) (.prod (.int .i64) (.int .i64)))))⟩
def tyB23 : TI := ⟨.slice 3, 1, 24, [.nils], some (.row (.int .i64))⟩
def tyB25 : TI := ⟨.slice 5, 1, 24, [.nils], some (.row (.int .u8))⟩
def tyB26 : TI := ⟨.slice 43, 1, 24, [.nils], some (.row (.prod (.int .i64) (.prod (.int .i64) (.prod (.int .i64) (.prod (.int .i64) (.prod (.int .i64) (.prod (.int .i64) (.prod (.int .i64) (.prod (.int .i64) (.prod (.int .i64) (.prod (.int .i64) (.int .i64))))))))))))⟩
def tyB27 : TI := ⟨.arr 4 3, 4, 32, [.int .i64 0, .int .i64 0, .int .i64 0, .int .i64 0], some (.prod (.int .i64) (.prod (.int .i64) (.prod (.int .i64) (.int .i64))))⟩
def tyB29 : TI := ⟨.struct [(0, 2), (1, 3), (2, 3), (3, 3), (4, 25), (5, 26), (6, 22), (7, 27)], 11, 136, [.int .i64 0, .int .i64 0, .int .i64 0, .int .i64 0, .nils, .nils, .nils, .int .i64 0, .int .i64 0, .int .i64 0, .int .i64 0], some (.prod (.int .i64) (.prod (.int .i64) (.prod (.int .i64) (.prod (.int .i64) (.prod (.row (.int .u8)) (.prod (.row (.prod (.int .i64) (.prod (.int .i64) (.prod (.int .i64) (.prod (.int .i64) (.prod (.int .i64) (.prod (.int .i64) (.prod (.int .i64) (.prod (.int .i64) (.prod (.int .i64) (.prod (.int .i64) (.int .i64)))))))))))) (.prod (.row (.prod (.int .i64) (.prod (.int .i64) (.prod (.int .i64) (.int .i64))))) (.prod (.int .i64) (.prod (.int .i64) (.prod (.int .i64) (.int .i64)))))))))))⟩
def tyB38 : TI := ⟨.struct [(0, 3), (1, 3), (2, 3), (3, 3)], 4, 32, [.int .i64 0, .int .i64 0, .int .i64 0, .int .i64 0], some (.prod (.int .i64) (.prod (.int .i64) (.prod (.int .i64) (.int .i64))))⟩
def tyB43 : TI := ⟨.struct [(0, 3), (1, 3), (2, 3), (3, 3), (4, 3), (5, 3), (6, 3), (7, 3), (8, 3), (9, 3), (10, 3)], 11, 88, [.int .i64 0, .int .i64 0, .int .i64 0, .int .i64 0, .int .i64 0, .int .i64 0, .int .i64 0, .int .i64 0, .int .i64 0, .int .i64 0, .int .i64 0], some (.prod (.int .i64) (.prod (.int .i64) (.prod (.int .i64) (.prod (.int .i64) (.prod (.int .i64) (.prod (.int .i64) (.prod (.int .i64) (.prod (.int .i64) (.prod (.int .i64) (.prod (.int .i64) (.int .i64)))))))))))⟩
def tisB : List (Nat × TI) := [(2, tyB2), (3, tyB3), (4, tyB4), (5, tyB5), (9, tyB9), (22, tyB22), (23, tyB23), (25, tyB25), (26, tyB26), (27, tyB27), (29, tyB29), (38, tyB38), (43, tyB43)]
theorem tyB2_ok : TIok Go.Proofs.Try.prog 2 tyB2 := ⟨by kernel_rfl, by kernel_rfl, by kernel_rfl, by kernel_rfl, by kernel_rfl, by kernel_rfl, by kernel_rfl, by kernel_rfl⟩
theorem tyB3_ok : TIok Go.Proofs.Try.prog 3 tyB3 := ⟨by kernel_rfl, by kernel_rfl, by kernel_rfl, by kernel_rfl, by kernel_rfl, by kernel_rfl, by kernel_rfl, by kernel_rfl⟩
theorem tyB4_ok : TIok Go.Proofs.Try.prog 4 tyB4 := ⟨by kernel_rfl, by kernel_rfl, by kernel_rfl, by kernel_rfl, by kernel_rfl, by kernel_rfl, by kernel_rfl, by kernel_rfl⟩
theorem tyB5_ok : TIok Go.Proofs.Try.prog 5 tyB5 := ⟨by kernel_rfl, by kernel_rfl, by kernel_rfl, by kernel_rfl, by kernel_rfl, by kernel_rfl, by kernel_rfl, by kernel_rfl⟩
theorem tyB9_ok : TIok Go.Proofs.Try.prog 9 tyB9 := ⟨by kernel_rfl, by kernel_rfl, by kernel_rfl, by kernel_rfl, by kernel_rfl, by kernel_rfl, by kernel_rfl, by kernel_rfl⟩
theorem tyB22_ok : TIok Go.Proofs.Try.prog 22 tyB22 := ⟨by kernel_rfl, by kernel_rfl, by kernel_rfl, by kernel_rfl, by kernel_rfl, by kernel_rfl, by kernel_rfl, by kernel_rfl⟩
theorem tyB23_ok : TIok Go.Proofs.Try.prog 23 tyB23 := ⟨by kernel_rfl, by kernel_rfl, by kernel_rfl, by kernel_rfl, by kernel_rfl, by kernel_rfl, by kernel_rfl, by kernel_rfl⟩
theorem tyB25_ok : TIok Go.Proofs.Try.prog 25 tyB25 := ⟨by kernel_rfl, by kernel_rfl, by kernel_rfl, by kernel_rfl, by kernel_rfl, by kernel_rfl, by kernel_rfl, by kernel_rfl⟩
theorem tyB26_ok : TIok Go.Proofs.Try.prog 26 tyB26 := ⟨by kernel_rfl, by kernel_rfl, by kernel_rfl, by kernel_rfl, by kernel_rfl, by kernel_rfl, by kernel_rfl, by kernel_rfl⟩
theorem tyB27_ok : TIok Go.Proofs.Try.prog 27 tyB27 := ⟨by kernel_rfl, by kernel_rfl, by kernel_rfl, by kernel_rfl, by kernel_rfl, by kernel_rfl, by kernel_rfl, by kernel_rfl⟩
theorem tyB29_ok : TIok Go.Proofs.Try.prog 29 tyB29 := ⟨by kernel_rfl, by kernel_rfl, by kernel_rfl, by kernel_rfl, by kernel_rfl, by kernel_rfl, by kernel_rfl, by kernel_rfl⟩
theorem tyB38_ok : TIok Go.Proofs.Try.prog 38 tyB38 := ⟨by kernel_rfl, by kernel_rfl, by kernel_rfl, by kernel_rfl, by kernel_rfl, by kernel_rfl, by kernel_rfl, by kernel_rfl⟩
theorem tyB43_ok : TIok Go.Proofs.Try.prog 43 tyB43 := ⟨by kernel_rfl, by kernel_rfl, by kernel_rfl, by kernel_rfl, by kernel_rfl, by kernel_rfl, by kernel_rfl, by kernel_rfl⟩
theorem tisB_ok : TIs Go.Proofs.Try.prog tisB := (TIs.cons tyB2_ok (TIs.cons tyB3_ok (TIs.cons tyB4_ok (TIs.cons tyB5_ok (TIs.cons tyB9_ok (TIs.cons tyB22_ok (TIs.cons tyB23_ok (TIs.cons tyB25_ok (TIs.cons tyB26_ok (TIs.cons tyB27_ok (TIs.cons tyB29_ok (TIs.cons tyB38_ok (TIs.cons tyB43_ok (TIs.nil _))))))))))))))
theorem ordersB : Go.Proofs.Try.prog.follows .mixedOrders = true := by kernel_rfl
theorem eqB27 : EqOk Go.Proofs.Try.prog 27 [.int .i64, .int .i64, .int .i64, .int .i64] := eqok_arr (n := 4) (e := 3) (k := .int .i64) (by kernel_rfl) (by kernel_rfl) (by kernel_rfl) (by kernel_rfl) (by kernel_rfl) (by kernel_rfl)
theorem eqB38 : EqOk Go.Proofs.Try.prog 38 [.int .i64, .int .i64, .int .i64, .int .i64] := eqok_of (by kernel_rfl) (by kernel_rfl) (by kernel_rfl) (by kernel_rfl)
theorem eqB43 : EqOk Go.Proofs.Try.prog 43 [.int .i64, .int .i64, .int .i64, .int .i64, .int .i64, .int .i64, .int .i64, .int .i64, .int .i64, .int .i64, .int .i64] := eqok_of (by kernel_rfl) (by kernel_rfl) (by kernel_rfl) (by kernel_rfl)
/-! f14: adit/goods.Do -/
def f14 (a0 : Int) (a1 : Int) (a2 : Int) (a3 : Int) (a4 : List Int) (a5 : List (Int × Int × Int × Int × Int × Int × Int × Int × Int × Int × Int)) (a6 : List (Int × Int × Int × Int)) (a7 : Int) (a8 : Int) (a9 : Int) (a10 : Int) (a11 : Int) (a12 : Int) : Option (Int × Int × Int × Int × Int × Int × Int × Int × List Int × List (Int × Int × Int × Int × Int × Int × Int × Int × Int × Int × Int) × List (Int × Int × Int × Int) × Unit) :=
 Option.bind (f27 a0 a1 a2 a3 a4 a5 a6 a7 a8 a9 a10) fun y0 =>
  Option.bind (f28 y0.snd.snd.snd.snd.snd.snd.snd.snd.snd.fst a11) fun y1 =>
   bif Decidable.decide (y1.fst < 0) then
    some ((y0.fst, y0.snd.fst, y0.snd.snd.fst, y0.snd.snd.snd.fst, y0.snd.snd.snd.snd.fst, y0.snd.snd.snd.snd.snd.fst, y0.snd.snd.snd.snd.snd.snd.fst, y0.snd.snd.snd.snd.snd.snd.snd.fst, y0.snd.snd.snd.snd.snd.snd.snd.snd.fst, y0.snd.snd.snd.snd.snd.snd.snd.snd.snd.fst, y0.snd.snd.snd.snd.snd.snd.snd.snd.snd.snd.fst, ()))
   else
    bif Decidable.decide (a11 < 0) then
     some ((y0.fst, y0.snd.fst, y0.snd.snd.fst, y0.snd.snd.snd.fst, y0.snd.snd.snd.snd.fst, y0.snd.snd.snd.snd.snd.fst, y0.snd.snd.snd.snd.snd.snd.fst, y0.snd.snd.snd.snd.snd.snd.snd.fst, y0.snd.snd.snd.snd.snd.snd.snd.snd.fst, y0.snd.snd.snd.snd.snd.snd.snd.snd.snd.fst, y0.snd.snd.snd.snd.snd.snd.snd.snd.snd.snd.fst, ()))
    else
     bif Decidable.decide (a11 ≥ 4) then
      some ((y0.fst, y0.snd.fst, y0.snd.snd.fst, y0.snd.snd.snd.fst, y0.snd.snd.snd.snd.fst, y0.snd.snd.snd.snd.snd.fst, y0.snd.snd.snd.snd.snd.snd.fst, y0.snd.snd.snd.snd.snd.snd.snd.fst, y0.snd.snd.snd.snd.snd.snd.snd.snd.fst, y0.snd.snd.snd.snd.snd.snd.snd.snd.snd.fst, y0.snd.snd.snd.snd.snd.snd.snd.snd.snd.snd.fst, ()))
     else
      bif inRange y1.fst (List.length y0.snd.snd.snd.snd.snd.snd.snd.snd.snd.fst) then
       Option.bind (α := Int × Int × Int × Int × Int × Int × Int × Int × Int × Int × Int × Int × Int × Int × Int × Int × List Int × List (Int × Int × Int × Int × Int × Int × Int × Int × Int × Int × Int) × List (Int × Int × Int × Int) × Unit ⊕ Int × Int × Int × Int × Int × Int × Int × Int × List Int × List (Int × Int × Int × Int × Int × Int × Int × Int × Int × Int × Int) × List (Int × Int × Int × Int) × Unit) (
        bif a12 == 5 then
         Option.bind (f29 a11 (List.getD y0.snd.snd.snd.snd.snd.snd.snd.snd.snd.fst (Int.toNat y1.fst) (0, 0, 0, 0, 0, 0, 0, 0, 0, 0, 0)).fst (List.getD y0.snd.snd.snd.snd.snd.snd.snd.snd.snd.fst (Int.toNat y1.fst) (0, 0, 0, 0, 0, 0, 0, 0, 0, 0, 0)).snd.fst (List.getD y0.snd.snd.snd.snd.snd.snd.snd.snd.snd.fst (Int.toNat y1.fst) (0, 0, 0, 0, 0, 0, 0, 0, 0, 0, 0)).snd.snd.fst (List.getD y0.snd.snd.snd.snd.snd.snd.snd.snd.snd.fst (Int.toNat y1.fst) (0, 0, 0, 0, 0, 0, 0, 0, 0, 0, 0)).snd.snd.snd.fst (List.getD y0.snd.snd.snd.snd.snd.snd.snd.snd.snd.fst (Int.toNat y1.fst) (0, 0, 0, 0, 0, 0, 0, 0, 0, 0, 0)).snd.snd.snd.snd.fst (List.getD y0.snd.snd.snd.snd.snd.snd.snd.snd.snd.fst (Int.toNat y1.fst) (0, 0, 0, 0, 0, 0, 0, 0, 0, 0, 0)).snd.snd.snd.snd.snd.fst (List.getD y0.snd.snd.snd.snd.snd.snd.snd.snd.snd.fst (Int.toNat y1.fst) (0, 0, 0, 0, 0, 0, 0, 0, 0, 0, 0)).snd.snd.snd.snd.snd.snd.fst (List.getD y0.snd.snd.snd.snd.snd.snd.snd.snd.snd.fst (Int.toNat y1.fst) (0, 0, 0, 0, 0, 0, 0, 0, 0, 0, 0)).snd.snd.snd.snd.snd.snd.snd.fst (List.getD y0.snd.snd.snd.snd.snd.snd.snd.snd.snd.fst (Int.toNat y1.fst) (0, 0, 0, 0, 0, 0, 0, 0, 0, 0, 0)).snd.snd.snd.snd.snd.snd.snd.snd.fst (List.getD y0.snd.snd.snd.snd.snd.snd.snd.snd.snd.fst (Int.toNat y1.fst) (0, 0, 0, 0, 0, 0, 0, 0, 0, 0, 0)).snd.snd.snd.snd.snd.snd.snd.snd.snd.fst (List.getD y0.snd.snd.snd.snd.snd.snd.snd.snd.snd.fst (Int.toNat y1.fst) (0, 0, 0, 0, 0, 0, 0, 0, 0, 0, 0)).snd.snd.snd.snd.snd.snd.snd.snd.snd.snd y0.fst y0.snd.fst y0.snd.snd.fst y0.snd.snd.snd.fst y0.snd.snd.snd.snd.fst y0.snd.snd.snd.snd.snd.fst y0.snd.snd.snd.snd.snd.snd.fst y0.snd.snd.snd.snd.snd.snd.snd.fst y0.snd.snd.snd.snd.snd.snd.snd.snd.fst y0.snd.snd.snd.snd.snd.snd.snd.snd.snd.fst y0.snd.snd.snd.snd.snd.snd.snd.snd.snd.snd.fst) fun y5 =>
          some (Sum.inl (y5.fst, y5.snd.fst, y5.snd.snd.fst, y5.snd.snd.snd.fst, y5.snd.snd.snd.snd.fst, y5.snd.snd.snd.snd.snd.fst, y5.snd.snd.snd.snd.snd.snd.fst, y5.snd.snd.snd.snd.snd.snd.snd.fst, 0, 0, 0, 0, 0, 0, 0, 0, y5.snd.snd.snd.snd.snd.snd.snd.snd.fst, y5.snd.snd.snd.snd.snd.snd.snd.snd.snd.fst, y5.snd.snd.snd.snd.snd.snd.snd.snd.snd.snd.fst, ()))
        else
         bif a12 == 6 then
          Option.bind (f30 y0.fst y0.snd.fst y0.snd.snd.fst y0.snd.snd.snd.fst y0.snd.snd.snd.snd.snd.snd.snd.snd.fst y0.snd.snd.snd.snd.snd.snd.snd.snd.snd.fst y0.snd.snd.snd.snd.snd.snd.snd.snd.snd.snd.fst y0.snd.snd.snd.snd.fst y0.snd.snd.snd.snd.snd.fst y0.snd.snd.snd.snd.snd.snd.fst y0.snd.snd.snd.snd.snd.snd.snd.fst a11 [1]) fun y6 =>
           bif Decidable.decide (y6.fst ≥ 0) then
            bif inRange y6.fst (List.length y0.snd.snd.snd.snd.snd.snd.snd.snd.snd.snd.fst) then
             let s0 : List (Int × Int × Int × Int × Int × Int × Int × Int × Int × Int × Int) := List.set y0.snd.snd.snd.snd.snd.snd.snd.snd.snd.fst (Int.toNat y1.fst) ((List.getD y0.snd.snd.snd.snd.snd.snd.snd.snd.snd.fst (Int.toNat y1.fst) (0, 0, 0, 0, 0, 0, 0, 0, 0, 0, 0)).fst, (List.getD y0.snd.snd.snd.snd.snd.snd.snd.snd.snd.fst (Int.toNat y1.fst) (0, 0, 0, 0, 0, 0, 0, 0, 0, 0, 0)).snd.fst, (List.getD y0.snd.snd.snd.snd.snd.snd.snd.snd.snd.fst (Int.toNat y1.fst) (0, 0, 0, 0, 0, 0, 0, 0, 0, 0, 0)).snd.snd.fst, (List.getD y0.snd.snd.snd.snd.snd.snd.snd.snd.snd.fst (Int.toNat y1.fst) (0, 0, 0, 0, 0, 0, 0, 0, 0, 0, 0)).snd.snd.snd.fst, (List.getD y0.snd.snd.snd.snd.snd.snd.snd.snd.snd.fst (Int.toNat y1.fst) (0, 0, 0, 0, 0, 0, 0, 0, 0, 0, 0)).snd.snd.snd.snd.fst, minI (Go.IntKind.wrap Go.IntKind.i64 ((List.getD y0.snd.snd.snd.snd.snd.snd.snd.snd.snd.fst (Int.toNat y1.fst) (0, 0, 0, 0, 0, 0, 0, 0, 0, 0, 0)).snd.snd.snd.snd.snd.fst + 6)) (List.getD y0.snd.snd.snd.snd.snd.snd.snd.snd.snd.fst (Int.toNat y1.fst) (0, 0, 0, 0, 0, 0, 0, 0, 0, 0, 0)).snd.snd.snd.snd.snd.snd.fst, (List.getD y0.snd.snd.snd.snd.snd.snd.snd.snd.snd.fst (Int.toNat y1.fst) (0, 0, 0, 0, 0, 0, 0, 0, 0, 0, 0)).snd.snd.snd.snd.snd.snd.fst, (List.getD y0.snd.snd.snd.snd.snd.snd.snd.snd.snd.fst (Int.toNat y1.fst) (0, 0, 0, 0, 0, 0, 0, 0, 0, 0, 0)).snd.snd.snd.snd.snd.snd.snd.fst, (List.getD y0.snd.snd.snd.snd.snd.snd.snd.snd.snd.fst (Int.toNat y1.fst) (0, 0, 0, 0, 0, 0, 0, 0, 0, 0, 0)).snd.snd.snd.snd.snd.snd.snd.snd.fst, (List.getD y0.snd.snd.snd.snd.snd.snd.snd.snd.snd.fst (Int.toNat y1.fst) (0, 0, 0, 0, 0, 0, 0, 0, 0, 0, 0)).snd.snd.snd.snd.snd.snd.snd.snd.snd.fst, (List.getD y0.snd.snd.snd.snd.snd.snd.snd.snd.snd.fst (Int.toNat y1.fst) (0, 0, 0, 0, 0, 0, 0, 0, 0, 0, 0)).snd.snd.snd.snd.snd.snd.snd.snd.snd.snd)
             let s1 : List (Int × Int × Int × Int × Int × Int × Int × Int × Int × Int × Int) := List.set s0 (Int.toNat y1.fst) ((List.getD s0 (Int.toNat y1.fst) (0, 0, 0, 0, 0, 0, 0, 0, 0, 0, 0)).fst, (List.getD s0 (Int.toNat y1.fst) (0, 0, 0, 0, 0, 0, 0, 0, 0, 0, 0)).snd.fst, (List.getD s0 (Int.toNat y1.fst) (0, 0, 0, 0, 0, 0, 0, 0, 0, 0, 0)).snd.snd.fst, (List.getD s0 (Int.toNat y1.fst) (0, 0, 0, 0, 0, 0, 0, 0, 0, 0, 0)).snd.snd.snd.fst, (List.getD s0 (Int.toNat y1.fst) (0, 0, 0, 0, 0, 0, 0, 0, 0, 0, 0)).snd.snd.snd.snd.fst, (List.getD s0 (Int.toNat y1.fst) (0, 0, 0, 0, 0, 0, 0, 0, 0, 0, 0)).snd.snd.snd.snd.snd.fst, (List.getD s0 (Int.toNat y1.fst) (0, 0, 0, 0, 0, 0, 0, 0, 0, 0, 0)).snd.snd.snd.snd.snd.snd.fst, (List.getD s0 (Int.toNat y1.fst) (0, 0, 0, 0, 0, 0, 0, 0, 0, 0, 0)).snd.snd.snd.snd.snd.snd.snd.fst, (List.getD s0 (Int.toNat y1.fst) (0, 0, 0, 0, 0, 0, 0, 0, 0, 0, 0)).snd.snd.snd.snd.snd.snd.snd.snd.fst, 0, (List.getD s0 (Int.toNat y1.fst) (0, 0, 0, 0, 0, 0, 0, 0, 0, 0, 0)).snd.snd.snd.snd.snd.snd.snd.snd.snd.snd)
             some (Sum.inl (y0.fst, y0.snd.fst, y0.snd.snd.fst, y0.snd.snd.snd.fst, y0.snd.snd.snd.snd.fst, y0.snd.snd.snd.snd.snd.fst, y0.snd.snd.snd.snd.snd.snd.fst, y0.snd.snd.snd.snd.snd.snd.snd.fst, 0, 0, 0, 0, 0, 0, 0, 0, y0.snd.snd.snd.snd.snd.snd.snd.snd.fst, s1, List.set y0.snd.snd.snd.snd.snd.snd.snd.snd.snd.snd.fst (Int.toNat y6.fst) (0, 0, 0, 0), ()))
            else
             none
           else
            some (Sum.inl (y0.fst, y0.snd.fst, y0.snd.snd.fst, y0.snd.snd.snd.fst, y0.snd.snd.snd.snd.fst, y0.snd.snd.snd.snd.snd.fst, y0.snd.snd.snd.snd.snd.snd.fst, y0.snd.snd.snd.snd.snd.snd.snd.fst, 0, 0, 0, 0, 0, 0, 0, 0, y0.snd.snd.snd.snd.snd.snd.snd.snd.fst, y0.snd.snd.snd.snd.snd.snd.snd.snd.snd.fst, y0.snd.snd.snd.snd.snd.snd.snd.snd.snd.snd.fst, ()))
         else
          bif a12 == 7 then
           Option.bind (f31 y0.fst y0.snd.fst y0.snd.snd.fst y0.snd.snd.snd.fst y0.snd.snd.snd.snd.fst y0.snd.snd.snd.snd.snd.fst y0.snd.snd.snd.snd.snd.snd.fst y0.snd.snd.snd.snd.snd.snd.snd.fst a11 y0.snd.snd.snd.snd.snd.snd.snd.snd.fst y0.snd.snd.snd.snd.snd.snd.snd.snd.snd.fst y0.snd.snd.snd.snd.snd.snd.snd.snd.snd.snd.fst) fun y7 =>
            some (Sum.inl (y0.fst, y0.snd.fst, y0.snd.snd.fst, y0.snd.snd.snd.fst, y0.snd.snd.snd.snd.fst, y0.snd.snd.snd.snd.snd.fst, y0.snd.snd.snd.snd.snd.snd.fst, y0.snd.snd.snd.snd.snd.snd.snd.fst, 0, 0, 0, 0, 0, 0, 0, 0, y7.fst, y7.snd.fst, y7.snd.snd.fst, ()))
          else
           bif a12 == 8 then
            Option.bind (f30 y0.fst y0.snd.fst y0.snd.snd.fst y0.snd.snd.snd.fst y0.snd.snd.snd.snd.snd.snd.snd.snd.fst y0.snd.snd.snd.snd.snd.snd.snd.snd.snd.fst y0.snd.snd.snd.snd.snd.snd.snd.snd.snd.snd.fst y0.snd.snd.snd.snd.fst y0.snd.snd.snd.snd.snd.fst y0.snd.snd.snd.snd.snd.snd.fst y0.snd.snd.snd.snd.snd.snd.snd.fst a11 [1, 2, 3, 4]) fun y8 =>
             Option.bind (α := Nat × Int × Bool × Int × Int × Int × Int × Int × Int × Int × Int × Int × Int × Int × Int × Int × Int × Int × Int × List (Int × Int × Int × Int × Int × Int × Int × Int × Int × Int × Int) × List Int × List (Int × Int × Int × Int) × Unit ⊕ Int × Int × Int × Int × Int × Int × Int × Int × Int × Int × Int × Int × Int × Int × Int × Int × List Int × List (Int × Int × Int × Int × Int × Int × Int × Int × Int × Int × Int) × List (Int × Int × Int × Int) × Unit ⊕ Int × Int × Int × Int × Int × Int × Int × Int × List Int × List (Int × Int × Int × Int × Int × Int × Int × Int × Int × Int × Int) × List (Int × Int × Int × Int) × Unit) (
              bif Decidable.decide (y8.fst ≥ 0) then
               Option.bind (f32 y0.fst y0.snd.fst y0.snd.snd.fst y0.snd.snd.snd.fst y0.snd.snd.snd.snd.snd.snd.snd.snd.fst y0.snd.snd.snd.snd.snd.snd.snd.snd.snd.fst y0.snd.snd.snd.snd.snd.snd.snd.snd.snd.snd.fst y0.snd.snd.snd.snd.fst y0.snd.snd.snd.snd.snd.fst y0.snd.snd.snd.snd.snd.snd.fst y0.snd.snd.snd.snd.snd.snd.snd.fst 1 (List.getD y0.snd.snd.snd.snd.snd.snd.snd.snd.snd.fst (Int.toNat y1.fst) (0, 0, 0, 0, 0, 0, 0, 0, 0, 0, 0)).snd.snd.snd.fst (List.getD y0.snd.snd.snd.snd.snd.snd.snd.snd.snd.fst (Int.toNat y1.fst) (0, 0, 0, 0, 0, 0, 0, 0, 0, 0, 0)).snd.snd.snd.snd.fst) fun y12 =>
                some (Sum.inl (Int.toNat y1.fst, y8.fst, Decidable.decide (y12.fst < 0), y0.fst, y0.snd.fst, y0.snd.snd.fst, y0.snd.snd.snd.fst, y0.snd.snd.snd.snd.fst, y0.snd.snd.snd.snd.snd.fst, y0.snd.snd.snd.snd.snd.snd.fst, y0.snd.snd.snd.snd.snd.snd.snd.fst, 0, 0, 0, 0, 0, 0, 0, 0, y0.snd.snd.snd.snd.snd.snd.snd.snd.snd.fst, y0.snd.snd.snd.snd.snd.snd.snd.snd.fst, y0.snd.snd.snd.snd.snd.snd.snd.snd.snd.snd.fst, ()))
              else
               some (Sum.inl (Int.toNat y1.fst, y8.fst, Bool.false, y0.fst, y0.snd.fst, y0.snd.snd.fst, y0.snd.snd.snd.fst, y0.snd.snd.snd.snd.fst, y0.snd.snd.snd.snd.snd.fst, y0.snd.snd.snd.snd.snd.snd.fst, y0.snd.snd.snd.snd.snd.snd.snd.fst, 0, 0, 0, 0, 0, 0, 0, 0, y0.snd.snd.snd.snd.snd.snd.snd.snd.snd.fst, y0.snd.snd.snd.snd.snd.snd.snd.snd.fst, y0.snd.snd.snd.snd.snd.snd.snd.snd.snd.snd.fst, ()))
             ) fun y9 =>
              Sum.elim (fun y10 =>
               bif y10.snd.snd.fst then
                bif inRange y10.snd.fst (List.length y10.snd.snd.snd.snd.snd.snd.snd.snd.snd.snd.snd.snd.snd.snd.snd.snd.snd.snd.snd.snd.snd.fst) then
                 let s0 : List (Int × Int × Int × Int) := List.set y10.snd.snd.snd.snd.snd.snd.snd.snd.snd.snd.snd.snd.snd.snd.snd.snd.snd.snd.snd.snd.snd.fst (Int.toNat y10.snd.fst) ((List.getD y10.snd.snd.snd.snd.snd.snd.snd.snd.snd.snd.snd.snd.snd.snd.snd.snd.snd.snd.snd.snd.snd.fst (Int.toNat y10.snd.fst) (0, 0, 0, 0)).fst, 1, (List.getD y10.snd.snd.snd.snd.snd.snd.snd.snd.snd.snd.snd.snd.snd.snd.snd.snd.snd.snd.snd.snd.snd.fst (Int.toNat y10.snd.fst) (0, 0, 0, 0)).snd.snd.fst, (List.getD y10.snd.snd.snd.snd.snd.snd.snd.snd.snd.snd.snd.snd.snd.snd.snd.snd.snd.snd.snd.snd.snd.fst (Int.toNat y10.snd.fst) (0, 0, 0, 0)).snd.snd.snd)
                 let s1 : List (Int × Int × Int × Int) := List.set s0 (Int.toNat y10.snd.fst) ((List.getD s0 (Int.toNat y10.snd.fst) (0, 0, 0, 0)).fst, (List.getD s0 (Int.toNat y10.snd.fst) (0, 0, 0, 0)).snd.fst, (List.getD y10.snd.snd.snd.snd.snd.snd.snd.snd.snd.snd.snd.snd.snd.snd.snd.snd.snd.snd.snd.fst y10.fst (0, 0, 0, 0, 0, 0, 0, 0, 0, 0, 0)).snd.snd.snd.fst, (List.getD s0 (Int.toNat y10.snd.fst) (0, 0, 0, 0)).snd.snd.snd)
                 let s2 : List (Int × Int × Int × Int) := List.set s1 (Int.toNat y10.snd.fst) ((List.getD s1 (Int.toNat y10.snd.fst) (0, 0, 0, 0)).fst, (List.getD s1 (Int.toNat y10.snd.fst) (0, 0, 0, 0)).snd.fst, (List.getD s1 (Int.toNat y10.snd.fst) (0, 0, 0, 0)).snd.snd.fst, (List.getD y10.snd.snd.snd.snd.snd.snd.snd.snd.snd.snd.snd.snd.snd.snd.snd.snd.snd.snd.snd.fst y10.fst (0, 0, 0, 0, 0, 0, 0, 0, 0, 0, 0)).snd.snd.snd.snd.fst)
                 some (Sum.inl (y10.snd.snd.snd.fst, y10.snd.snd.snd.snd.fst, y10.snd.snd.snd.snd.snd.fst, y10.snd.snd.snd.snd.snd.snd.fst, y10.snd.snd.snd.snd.snd.snd.snd.fst, y10.snd.snd.snd.snd.snd.snd.snd.snd.fst, y10.snd.snd.snd.snd.snd.snd.snd.snd.snd.fst, y10.snd.snd.snd.snd.snd.snd.snd.snd.snd.snd.fst, y10.snd.snd.snd.snd.snd.snd.snd.snd.snd.snd.snd.fst, y10.snd.snd.snd.snd.snd.snd.snd.snd.snd.snd.snd.snd.fst, y10.snd.snd.snd.snd.snd.snd.snd.snd.snd.snd.snd.snd.snd.fst, y10.snd.snd.snd.snd.snd.snd.snd.snd.snd.snd.snd.snd.snd.snd.fst, y10.snd.snd.snd.snd.snd.snd.snd.snd.snd.snd.snd.snd.snd.snd.snd.fst, y10.snd.snd.snd.snd.snd.snd.snd.snd.snd.snd.snd.snd.snd.snd.snd.snd.fst, y10.snd.snd.snd.snd.snd.snd.snd.snd.snd.snd.snd.snd.snd.snd.snd.snd.snd.fst, y10.snd.snd.snd.snd.snd.snd.snd.snd.snd.snd.snd.snd.snd.snd.snd.snd.snd.snd.fst, y10.snd.snd.snd.snd.snd.snd.snd.snd.snd.snd.snd.snd.snd.snd.snd.snd.snd.snd.snd.snd.fst, y10.snd.snd.snd.snd.snd.snd.snd.snd.snd.snd.snd.snd.snd.snd.snd.snd.snd.snd.snd.fst, s2, ()))
                else
                 none
               else
                some (Sum.inl (y10.snd.snd.snd.fst, y10.snd.snd.snd.snd.fst, y10.snd.snd.snd.snd.snd.fst, y10.snd.snd.snd.snd.snd.snd.fst, y10.snd.snd.snd.snd.snd.snd.snd.fst, y10.snd.snd.snd.snd.snd.snd.snd.snd.fst, y10.snd.snd.snd.snd.snd.snd.snd.snd.snd.fst, y10.snd.snd.snd.snd.snd.snd.snd.snd.snd.snd.fst, y10.snd.snd.snd.snd.snd.snd.snd.snd.snd.snd.snd.fst, y10.snd.snd.snd.snd.snd.snd.snd.snd.snd.snd.snd.snd.fst, y10.snd.snd.snd.snd.snd.snd.snd.snd.snd.snd.snd.snd.snd.fst, y10.snd.snd.snd.snd.snd.snd.snd.snd.snd.snd.snd.snd.snd.snd.fst, y10.snd.snd.snd.snd.snd.snd.snd.snd.snd.snd.snd.snd.snd.snd.snd.fst, y10.snd.snd.snd.snd.snd.snd.snd.snd.snd.snd.snd.snd.snd.snd.snd.snd.fst, y10.snd.snd.snd.snd.snd.snd.snd.snd.snd.snd.snd.snd.snd.snd.snd.snd.snd.fst, y10.snd.snd.snd.snd.snd.snd.snd.snd.snd.snd.snd.snd.snd.snd.snd.snd.snd.snd.fst, y10.snd.snd.snd.snd.snd.snd.snd.snd.snd.snd.snd.snd.snd.snd.snd.snd.snd.snd.snd.snd.fst, y10.snd.snd.snd.snd.snd.snd.snd.snd.snd.snd.snd.snd.snd.snd.snd.snd.snd.snd.snd.fst, y10.snd.snd.snd.snd.snd.snd.snd.snd.snd.snd.snd.snd.snd.snd.snd.snd.snd.snd.snd.snd.snd.fst, ()))
              ) (fun z11 =>
               some (z11)
              ) (y9)
           else
            bif a12 == 10 then
             Option.bind (f33 a11 (List.getD y0.snd.snd.snd.snd.snd.snd.snd.snd.snd.fst (Int.toNat y1.fst) (0, 0, 0, 0, 0, 0, 0, 0, 0, 0, 0)).fst (List.getD y0.snd.snd.snd.snd.snd.snd.snd.snd.snd.fst (Int.toNat y1.fst) (0, 0, 0, 0, 0, 0, 0, 0, 0, 0, 0)).snd.fst (List.getD y0.snd.snd.snd.snd.snd.snd.snd.snd.snd.fst (Int.toNat y1.fst) (0, 0, 0, 0, 0, 0, 0, 0, 0, 0, 0)).snd.snd.fst (List.getD y0.snd.snd.snd.snd.snd.snd.snd.snd.snd.fst (Int.toNat y1.fst) (0, 0, 0, 0, 0, 0, 0, 0, 0, 0, 0)).snd.snd.snd.fst (List.getD y0.snd.snd.snd.snd.snd.snd.snd.snd.snd.fst (Int.toNat y1.fst) (0, 0, 0, 0, 0, 0, 0, 0, 0, 0, 0)).snd.snd.snd.snd.fst (List.getD y0.snd.snd.snd.snd.snd.snd.snd.snd.snd.fst (Int.toNat y1.fst) (0, 0, 0, 0, 0, 0, 0, 0, 0, 0, 0)).snd.snd.snd.snd.snd.fst (List.getD y0.snd.snd.snd.snd.snd.snd.snd.snd.snd.fst (Int.toNat y1.fst) (0, 0, 0, 0, 0, 0, 0, 0, 0, 0, 0)).snd.snd.snd.snd.snd.snd.fst (List.getD y0.snd.snd.snd.snd.snd.snd.snd.snd.snd.fst (Int.toNat y1.fst) (0, 0, 0, 0, 0, 0, 0, 0, 0, 0, 0)).snd.snd.snd.snd.snd.snd.snd.fst (List.getD y0.snd.snd.snd.snd.snd.snd.snd.snd.snd.fst (Int.toNat y1.fst) (0, 0, 0, 0, 0, 0, 0, 0, 0, 0, 0)).snd.snd.snd.snd.snd.snd.snd.snd.fst (List.getD y0.snd.snd.snd.snd.snd.snd.snd.snd.snd.fst (Int.toNat y1.fst) (0, 0, 0, 0, 0, 0, 0, 0, 0, 0, 0)).snd.snd.snd.snd.snd.snd.snd.snd.snd.fst (List.getD y0.snd.snd.snd.snd.snd.snd.snd.snd.snd.fst (Int.toNat y1.fst) (0, 0, 0, 0, 0, 0, 0, 0, 0, 0, 0)).snd.snd.snd.snd.snd.snd.snd.snd.snd.snd y0.fst y0.snd.fst y0.snd.snd.fst y0.snd.snd.snd.fst y0.snd.snd.snd.snd.fst y0.snd.snd.snd.snd.snd.fst y0.snd.snd.snd.snd.snd.snd.fst y0.snd.snd.snd.snd.snd.snd.snd.fst y0.snd.snd.snd.snd.snd.snd.snd.snd.fst y0.snd.snd.snd.snd.snd.snd.snd.snd.snd.fst y0.snd.snd.snd.snd.snd.snd.snd.snd.snd.snd.fst) fun y13 =>
              some (Sum.inl (y13.fst, y13.snd.fst, y13.snd.snd.fst, y13.snd.snd.snd.fst, y13.snd.snd.snd.snd.fst, y13.snd.snd.snd.snd.snd.fst, y13.snd.snd.snd.snd.snd.snd.fst, y13.snd.snd.snd.snd.snd.snd.snd.fst, 0, 0, 0, 0, 0, 0, 0, 0, y13.snd.snd.snd.snd.snd.snd.snd.snd.fst, y13.snd.snd.snd.snd.snd.snd.snd.snd.snd.fst, y13.snd.snd.snd.snd.snd.snd.snd.snd.snd.snd.fst, ()))
            else
             some (Sum.inl (y0.fst, y0.snd.fst, y0.snd.snd.fst, y0.snd.snd.snd.fst, y0.snd.snd.snd.snd.fst, y0.snd.snd.snd.snd.snd.fst, y0.snd.snd.snd.snd.snd.snd.fst, y0.snd.snd.snd.snd.snd.snd.snd.fst, 0, 0, 0, 0, 0, 0, 0, 0, y0.snd.snd.snd.snd.snd.snd.snd.snd.fst, y0.snd.snd.snd.snd.snd.snd.snd.snd.snd.fst, y0.snd.snd.snd.snd.snd.snd.snd.snd.snd.snd.fst, ()))
       ) fun y2 =>
        Sum.elim (fun y3 =>
         some ((y3.fst, y3.snd.fst, y3.snd.snd.fst, y3.snd.snd.snd.fst, y3.snd.snd.snd.snd.fst, y3.snd.snd.snd.snd.snd.fst, y3.snd.snd.snd.snd.snd.snd.fst, y3.snd.snd.snd.snd.snd.snd.snd.fst, y3.snd.snd.snd.snd.snd.snd.snd.snd.snd.snd.snd.snd.snd.snd.snd.snd.fst, y3.snd.snd.snd.snd.snd.snd.snd.snd.snd.snd.snd.snd.snd.snd.snd.snd.snd.fst, y3.snd.snd.snd.snd.snd.snd.snd.snd.snd.snd.snd.snd.snd.snd.snd.snd.snd.snd.fst, ()))
        ) (fun z4 =>
         some (z4)
        ) (y2)
      else
       none
def f14.ins : Shape := ⟨[(0, .agg [.int .i64, .int .i64, .int .i64, .int .i64, .row (.int .u8), .row (.prod (.int .i64) (.prod (.int .i64) (.prod (.int .i64) (.prod (.int .i64) (.prod (.int .i64) (.prod (.int .i64) (.prod (.int .i64) (.prod (.int .i64) (.prod (.int .i64) (.prod (.int .i64) (.int .i64))))))))))), .row (.prod (.int .i64) (.prod (.int .i64) (.prod (.int .i64) (.int .i64)))), .int .i64, .int .i64, .int .i64, .int .i64]), (1, .c (.int .i64)), (2, .c (.int .i64))], []⟩
def f14.outs : List Shape := [⟨[(0, .agg [.int .i64, .int .i64, .int .i64, .int .i64, .own 0, .own 1, .own 2, .int .i64, .int .i64, .int .i64, .int .i64])], [(0, .arr (.int .u8)), (1, .arr (.prod (.int .i64) (.prod (.int .i64) (.prod (.int .i64) (.prod (.int .i64) (.prod (.int .i64) (.prod (.int .i64) (.prod (.int .i64) (.prod (.int .i64) (.prod (.int .i64) (.prod (.int .i64) (.int .i64)))))))))))), (2, .arr (.prod (.int .i64) (.prod (.int .i64) (.prod (.int .i64) (.int .i64)))))]⟩]
def f14.S : FnSpec := ⟨f14.ins, f14.outs, [], fun x => f14 x.1 x.2.1 x.2.2.1 x.2.2.2.1 x.2.2.2.2.1 x.2.2.2.2.2.1 x.2.2.2.2.2.2.1 x.2.2.2.2.2.2.2.1 x.2.2.2.2.2.2.2.2.1 x.2.2.2.2.2.2.2.2.2.1 x.2.2.2.2.2.2.2.2.2.2.1 x.2.2.2.2.2.2.2.2.2.2.2.1 x.2.2.2.2.2.2.2.2.2.2.2.2.1⟩
def f14.E (fuel : Nat) : Env := ⟨tisB, [(27, f27.S), (28, f28.S), (32, f32.S), (29, f29.S), (30, f30.S), (31, f31.S), (33, f33.S)], [], [(20, ⟨[(3, .c (.ptr 0 0)), (6, .c (.ptr 1 0)), (8, .c (.eptr 2 0)), (10, .c (.int .i64)), (95, .c (.bool))], [(0, .box [.int .i64, .int .i64, .int .i64, .int .i64, .own 3, .own 2, .own 4, .int .i64, .int .i64, .int .i64, .int .i64]), (1, .box [.int .i64, .int .i64, .int .i64, .int .i64, .nils, .nils, .nils, .int .i64, .int .i64, .int .i64, .int .i64]), (2, .arr (.prod (.int .i64) (.prod (.int .i64) (.prod (.int .i64) (.prod (.int .i64) (.prod (.int .i64) (.prod (.int .i64) (.prod (.int .i64) (.prod (.int .i64) (.prod (.int .i64) (.prod (.int .i64) (.int .i64)))))))))))), (3, .arr (.int .u8)), (4, .arr (.prod (.int .i64) (.prod (.int .i64) (.prod (.int .i64) (.int .i64)))))]⟩), (24, ⟨[(3, .c (.ptr 0 0)), (6, .c (.ptr 1 0))], [(0, .box [.int .i64, .int .i64, .int .i64, .int .i64, .own 2, .own 3, .own 4, .int .i64, .int .i64, .int .i64, .int .i64]), (1, .box [.int .i64, .int .i64, .int .i64, .int .i64, .nils, .nils, .nils, .int .i64, .int .i64, .int .i64, .int .i64]), (2, .arr (.int .u8)), (3, .arr (.prod (.int .i64) (.prod (.int .i64) (.prod (.int .i64) (.prod (.int .i64) (.prod (.int .i64) (.prod (.int .i64) (.prod (.int .i64) (.prod (.int .i64) (.prod (.int .i64) (.prod (.int .i64) (.int .i64)))))))))))), (4, .arr (.prod (.int .i64) (.prod (.int .i64) (.prod (.int .i64) (.int .i64)))))]⟩)], [], [], 0, [], fuel⟩
theorem f14.run : ∀ x, runFn (f14.E 100000000000000000000) Go.Proofs.Try.f14 ((Go.Proofs.Try.f14.body).getD .skip) f14.S x = f14.S.f x := by intro x; kernel_rfl
theorem f14.sound : Sound Go.Proofs.Try.prog 14 f14.S := sound_of_run (fun _ => f14.E 100000000000000000000) (by kernel_rfl) (by kernel_rfl) (by kernel_rfl) ordersB (fun _ => ⟨tisB_ok, EqsOk.nil _, (FnsOk.cons f27.sound (FnsOk.cons f28.sound (FnsOk.cons f32.sound (FnsOk.cons f29.sound (FnsOk.cons f30.sound (FnsOk.cons f31.sound (FnsOk.cons f33.sound FnsOk.nil)))))))⟩) (fun _ => rfl) (by kernel_rfl) (by kernel_rfl) (fun x r h => (f14.run x).trans h)
/-! f37: adit/goods.place -/
def f37 (a0 : Int) (a1 : Int) (a2 : Int) (a3 : Int) : Option (Int × Int × Int × Int × Unit) :=
 some ((0, a1, a2, a3, ()))
def f37.ins : Shape := ⟨[(0, .agg [.int .i64, .int .i64, .int .i64, .int .i64])], []⟩
def f37.outs : List Shape := [⟨[(0, .agg [.int .i64, .int .i64, .int .i64, .int .i64])], []⟩]
def f37.S : FnSpec := ⟨f37.ins, f37.outs, [], fun x => f37 x.1 x.2.1 x.2.2.1 x.2.2.2.1⟩
def f37.E (fuel : Nat) : Env := ⟨tisB, [], [], [], [], [], 0, [], fuel⟩
theorem f37.run : ∀ x, runFn (f37.E 100000000000000000000) Go.Proofs.Try.f37 ((Go.Proofs.Try.f37.body).getD .skip) f37.S x = f37.S.f x := by intro x; kernel_rfl
theorem f37.sound : Sound Go.Proofs.Try.prog 37 f37.S := sound_of_run (fun _ => f37.E 100000000000000000000) (by kernel_rfl) (by kernel_rfl) (by kernel_rfl) ordersB (fun _ => ⟨tisB_ok, EqsOk.nil _, FnsOk.nil⟩) (fun _ => rfl) (by kernel_rfl) (by kernel_rfl) (fun x r h => (f37.run x).trans h)
/-! f58: adit/grid.Walk -/
def f58 (a0 : Int) : Option (Bool × Unit) :=
 bif Decidable.decide (a0 ≥ 1) then
  some ((Decidable.decide (a0 ≤ 5), ()))
 else
  some ((Bool.false, ()))
def f58.ins : Shape := ⟨[(0, .c (.int .i64))], []⟩
def f58.outs : List Shape := [⟨[(0, .c (.bool))], []⟩]
def f58.S : FnSpec := ⟨f58.ins, f58.outs, [], fun x => f58 x.1⟩
def f58.E (fuel : Nat) : Env := ⟨tisB, [], [], [], [], [], 0, [], fuel⟩
theorem f58.run : ∀ x, runFn (f58.E 100000000000000000000) Go.Proofs.Try.f58 ((Go.Proofs.Try.f58.body).getD .skip) f58.S x = f58.S.f x := by intro x; kernel_rfl
theorem f58.sound : Sound Go.Proofs.Try.prog 58 f58.S := sound_of_run (fun _ => f58.E 100000000000000000000) (by kernel_rfl) (by kernel_rfl) (by kernel_rfl) ordersB (fun _ => ⟨tisB_ok, EqsOk.nil _, FnsOk.nil⟩) (fun _ => rfl) (by kernel_rfl) (by kernel_rfl) (fun x r h => (f58.run x).trans h)
/-! f38: adit/goods.may -/
def f38 (a0 : Int) (a1 : Int) (a2 : Int) (a3 : Int) (a4 : List Int) (a5 : List (Int × Int × Int × Int × Int × Int × Int × Int × Int × Int × Int)) (a6 : List (Int × Int × Int × Int)) (a7 : Int) (a8 : Int) (a9 : Int) (a10 : Int) (a11 : Int) (a12 : Int) (a13 : Int) (a14 : Int) : Option (Bool × Unit) :=
 Option.bind (α := Bool × Int × Int × Int × Int × List Int × List (Int × Int × Int × Int × Int × Int × Int × Int × Int × Int × Int) × List (Int × Int × Int × Int) × Int × Int × Int × Int × Int × Int × Int × Int × Unit ⊕ Bool × Unit) (
  bif Decidable.decide (a11 ≥ 1) then
   some (Sum.inl (Decidable.decide (a11 ≤ 3), a0, a1, a2, a3, a4, a5, a6, a7, a8, a9, a10, a11, a12, a13, a14, ()))
  else
   some (Sum.inl (Bool.false, a0, a1, a2, a3, a4, a5, a6, a7, a8, a9, a10, a11, a12, a13, a14, ()))
 ) fun y0 =>
  Sum.elim (fun y1 =>
   Option.bind (α := Bool × Int × Int × Int × Int × Unit ⊕ Bool × Unit) (
    bif y1.snd.snd.snd.snd.snd.snd.snd.snd.snd.snd.snd.snd.snd.fst == 1 then
     bif y1.fst then
      Option.bind (f55 y1.snd.snd.snd.snd.snd.fst y1.snd.snd.snd.snd.snd.snd.snd.snd.snd.snd.snd.snd.snd.snd.fst y1.snd.snd.snd.snd.snd.snd.snd.snd.snd.snd.snd.snd.snd.snd.snd.fst) fun y6 =>
       Option.bind (f58 y6.fst) fun y7 =>
        some (Sum.inr (y7.fst, ()))
     else
      bif y1.snd.snd.snd.snd.snd.snd.snd.snd.snd.snd.snd.snd.fst == 4 then
       Option.bind (f55 y1.snd.snd.snd.snd.snd.fst y1.snd.snd.snd.snd.snd.snd.snd.snd.snd.snd.snd.snd.snd.snd.fst y1.snd.snd.snd.snd.snd.snd.snd.snd.snd.snd.snd.snd.snd.snd.snd.fst) fun y8 =>
        Option.bind (f58 y8.fst) fun y9 =>
         some (Sum.inr (y9.fst, ()))
      else
       some (Sum.inr (Bool.false, ()))
    else
     bif y1.snd.snd.snd.snd.snd.snd.snd.snd.snd.snd.snd.snd.snd.fst == 4 then
      bif y1.fst then
       bif Decidable.decide (y1.snd.snd.snd.snd.snd.snd.snd.snd.snd.snd.snd.snd.snd.snd.fst ≥ 0) then
        bif Decidable.decide (y1.snd.snd.snd.snd.snd.snd.snd.snd.snd.snd.snd.snd.snd.snd.fst < 3) then
         some (Sum.inr (y1.snd.snd.snd.snd.snd.snd.snd.snd.snd.snd.snd.snd.snd.snd.snd.fst == 0, ()))
        else
         some (Sum.inr (Bool.false, ()))
       else
        some (Sum.inr (Bool.false, ()))
      else
       some (Sum.inr (Bool.false, ()))
     else
      bif y1.snd.snd.snd.snd.snd.snd.snd.snd.snd.snd.snd.snd.snd.fst == 2 then
       bif y1.fst then
        bif Decidable.decide (y1.snd.snd.snd.snd.snd.snd.snd.snd.snd.snd.snd.snd.snd.snd.snd.fst ≥ 0) then
         some (Sum.inl (Decidable.decide (y1.snd.snd.snd.snd.snd.snd.snd.snd.snd.snd.snd.snd.snd.snd.snd.fst < 4), y1.snd.snd.snd.snd.snd.snd.snd.snd.snd.snd.snd.snd.fst, y1.snd.snd.snd.snd.snd.snd.snd.snd.snd.snd.snd.snd.snd.fst, y1.snd.snd.snd.snd.snd.snd.snd.snd.snd.snd.snd.snd.snd.snd.fst, y1.snd.snd.snd.snd.snd.snd.snd.snd.snd.snd.snd.snd.snd.snd.snd.fst, ()))
        else
         some (Sum.inl (Bool.false, y1.snd.snd.snd.snd.snd.snd.snd.snd.snd.snd.snd.snd.fst, y1.snd.snd.snd.snd.snd.snd.snd.snd.snd.snd.snd.snd.snd.fst, y1.snd.snd.snd.snd.snd.snd.snd.snd.snd.snd.snd.snd.snd.snd.fst, y1.snd.snd.snd.snd.snd.snd.snd.snd.snd.snd.snd.snd.snd.snd.snd.fst, ()))
       else
        some (Sum.inl (Bool.false, y1.snd.snd.snd.snd.snd.snd.snd.snd.snd.snd.snd.snd.fst, y1.snd.snd.snd.snd.snd.snd.snd.snd.snd.snd.snd.snd.snd.fst, y1.snd.snd.snd.snd.snd.snd.snd.snd.snd.snd.snd.snd.snd.snd.fst, y1.snd.snd.snd.snd.snd.snd.snd.snd.snd.snd.snd.snd.snd.snd.snd.fst, ()))
      else
       bif y1.snd.snd.snd.snd.snd.snd.snd.snd.snd.snd.snd.snd.snd.fst == 3 then
        some (Sum.inl (y1.fst, y1.snd.snd.snd.snd.snd.snd.snd.snd.snd.snd.snd.snd.fst, y1.snd.snd.snd.snd.snd.snd.snd.snd.snd.snd.snd.snd.snd.fst, y1.snd.snd.snd.snd.snd.snd.snd.snd.snd.snd.snd.snd.snd.snd.fst, y1.snd.snd.snd.snd.snd.snd.snd.snd.snd.snd.snd.snd.snd.snd.snd.fst, ()))
       else
        some (Sum.inr (Bool.false, ()))
   ) fun y3 =>
    Sum.elim (fun y4 =>
     bif y4.fst then
      bif Decidable.decide (y4.snd.snd.snd.fst ≥ 0) then
       bif Decidable.decide (y4.snd.snd.snd.fst < 4) then
        bif y4.snd.snd.fst == 2 then
         some ((Bool.true, ()))
        else
         bif y4.snd.fst == Go.IntKind.wrap Go.IntKind.i64 (2 + y4.snd.snd.snd.snd.fst) then
          some ((Decidable.decide (y4.snd.snd.snd.snd.fst ≥ 0), ()))
         else
          some ((Bool.false, ()))
       else
        some ((Bool.false, ()))
      else
       some ((Bool.false, ()))
     else
      some ((Bool.false, ()))
    ) (fun z5 =>
     some (z5)
    ) (y3)
  ) (fun z2 =>
   some (z2)
  ) (y0)
def f38.ins : Shape := ⟨[(0, .agg [.int .i64, .int .i64, .int .i64, .int .i64, .row (.int .u8), .row (.prod (.int .i64) (.prod (.int .i64) (.prod (.int .i64) (.prod (.int .i64) (.prod (.int .i64) (.prod (.int .i64) (.prod (.int .i64) (.prod (.int .i64) (.prod (.int .i64) (.prod (.int .i64) (.int .i64))))))))))), .row (.prod (.int .i64) (.prod (.int .i64) (.prod (.int .i64) (.int .i64)))), .int .i64, .int .i64, .int .i64, .int .i64]), (1, .agg [.int .i64, .int .i64, .int .i64, .int .i64])], []⟩
def f38.outs : List Shape := [⟨[(0, .c (.bool))], []⟩]
def f38.S : FnSpec := ⟨f38.ins, f38.outs, [], fun x => f38 x.1 x.2.1 x.2.2.1 x.2.2.2.1 x.2.2.2.2.1 x.2.2.2.2.2.1 x.2.2.2.2.2.2.1 x.2.2.2.2.2.2.2.1 x.2.2.2.2.2.2.2.2.1 x.2.2.2.2.2.2.2.2.2.1 x.2.2.2.2.2.2.2.2.2.2.1 x.2.2.2.2.2.2.2.2.2.2.2.1 x.2.2.2.2.2.2.2.2.2.2.2.2.1 x.2.2.2.2.2.2.2.2.2.2.2.2.2.1 x.2.2.2.2.2.2.2.2.2.2.2.2.2.2.1⟩
def f38.E (fuel : Nat) : Env := ⟨tisB, [(55, f55.S), (58, f58.S)], [], [(3, ⟨[(2, .c (.ptr 0 0)), (3, .c (.ptr 1 0)), (5, .c (.bool))], [(0, .box [.int .i64, .int .i64, .int .i64, .int .i64, .row (.int .u8), .row (.prod (.int .i64) (.prod (.int .i64) (.prod (.int .i64) (.prod (.int .i64) (.prod (.int .i64) (.prod (.int .i64) (.prod (.int .i64) (.prod (.int .i64) (.prod (.int .i64) (.prod (.int .i64) (.int .i64))))))))))), .row (.prod (.int .i64) (.prod (.int .i64) (.prod (.int .i64) (.int .i64)))), .int .i64, .int .i64, .int .i64, .int .i64]), (1, .box [.int .i64, .int .i64, .int .i64, .int .i64])]⟩), (11, ⟨[(3, .c (.ptr 0 0)), (5, .c (.bool))], [(0, .box [.int .i64, .int .i64, .int .i64, .int .i64])]⟩)], [], [], 0, [], fuel⟩
theorem f38.run : ∀ x, runFn (f38.E 100000000000000000000) Go.Proofs.Try.f38 ((Go.Proofs.Try.f38.body).getD .skip) f38.S x = f38.S.f x := by intro x; kernel_rfl
theorem f38.sound : Sound Go.Proofs.Try.prog 38 f38.S := sound_of_run (fun _ => f38.E 100000000000000000000) (by kernel_rfl) (by kernel_rfl) (by kernel_rfl) ordersB (fun _ => ⟨tisB_ok, EqsOk.nil _, (FnsOk.cons f55.sound (FnsOk.cons f58.sound FnsOk.nil))⟩) (fun _ => rfl) (by kernel_rfl) (by kernel_rfl) (fun x r h => (f38.run x).trans h)
/-! f18: adit/goods.Check -/
def f18 (a0 : Int) (a1 : Int) (a2 : Int) (a3 : Int) (a4 : List Int) (a5 : List (Int × Int × Int × Int × Int × Int × Int × Int × Int × Int × Int)) (a6 : List (Int × Int × Int × Int)) (a7 : Int) (a8 : Int) (a9 : Int) (a10 : Int) : Option (Bool × Unit) := chkF (fun y => f37 y.1 y.2.1 y.2.2.1 y.2.2.2) (fun x y => f38 x.1 x.2.1 x.2.2.1 x.2.2.2.1 x.2.2.2.2.1 x.2.2.2.2.2.1 x.2.2.2.2.2.2.1 x.2.2.2.2.2.2.2.1 x.2.2.2.2.2.2.2.2.1 x.2.2.2.2.2.2.2.2.2.1 x.2.2.2.2.2.2.2.2.2.2.1 y.1 y.2.1 y.2.2.1 y.2.2.2) (a0, a1, a2, a3, a4, a5, a6, a7, a8, a9, a10, ())
def f18.S : FnSpec := ⟨chkIns, chkOuts, [], fun x => f18 x.1 x.2.1 x.2.2.1 x.2.2.2.1 x.2.2.2.2.1 x.2.2.2.2.2.1 x.2.2.2.2.2.2.1 x.2.2.2.2.2.2.2.1 x.2.2.2.2.2.2.2.2.1 x.2.2.2.2.2.2.2.2.2.1 x.2.2.2.2.2.2.2.2.2.2.1⟩
def f18.E : Env := ⟨tisB, [(37, f37.S), (38, f38.S)], [(38, k4)], [], [], [], 0, [], 1⟩
theorem f18.parts : ChkParts f18.E ((Go.Proofs.Try.f18.body).getD .skip) 64 (fun y => f37 y.1 y.2.1 y.2.2.1 y.2.2.2) (fun x y => f38 x.1 x.2.1 x.2.2.1 x.2.2.2.1 x.2.2.2.2.1 x.2.2.2.2.2.1 x.2.2.2.2.2.2.1 x.2.2.2.2.2.2.2.1 x.2.2.2.2.2.2.2.2.1 x.2.2.2.2.2.2.2.2.2.1 x.2.2.2.2.2.2.2.2.2.2.1 y.1 y.2.1 y.2.2.1 y.2.2.2) := ⟨by kernel_rfl, by kernel_rfl, by kernel_rfl, by kernel_rfl, by kernel_rfl, by kernel_rfl, by kernel_rfl, by kernel_rfl, by kernel_rfl, by kernel_rfl, by kernel_rfl, by kernel_rfl, by kernel_rfl, by kernel_rfl, by kernel_rfl, by kernel_rfl, by kernel_rfl, by kernel_rfl, by kernel_rfl, by kernel_rfl, by kernel_rfl, by kernel_rfl, by unfold IsOp; kernel_rfl, by unfold IsOp; kernel_rfl, by unfold IsOp; kernel_rfl, by unfold IsOp; kernel_rfl, by unfold IsOp; kernel_rfl, by unfold IsOp; kernel_rfl, by intros; kernel_rfl, by intros; kernel_rfl, by intros; kernel_rfl, by intros; kernel_rfl, by intros; kernel_rfl, by intros; kernel_rfl, by intros; kernel_rfl, by intros; kernel_rfl, by intros; kernel_rfl, by intros; kernel_rfl, by intros; kernel_rfl, by intros; kernel_rfl, by intros; kernel_rfl, by intros; kernel_rfl, by intros; kernel_rfl, by intros; kernel_rfl, by intros; kernel_rfl, by intros; kernel_rfl, by intros; kernel_rfl, by intros; kernel_rfl⟩
theorem f18.sound : Sound Go.Proofs.Try.prog 18 f18.S := chk_sound (fn := Go.Proofs.Try.f18) (E := f18.E) (c := ((Go.Proofs.Try.f18.body).getD .skip)) (tM := 64) (tX := 38) (tI := 3) (pl := (fun y => f37 y.1 y.2.1 y.2.2.1 y.2.2.2)) (my := (fun x y => f38 x.1 x.2.1 x.2.2.1 x.2.2.2.1 x.2.2.2.2.1 x.2.2.2.2.2.1 x.2.2.2.2.2.2.1 x.2.2.2.2.2.2.2.1 x.2.2.2.2.2.2.2.2.1 x.2.2.2.2.2.2.2.2.2.1 x.2.2.2.2.2.2.2.2.2.2.1 y.1 y.2.1 y.2.2.1 y.2.2.2)) (by kernel_rfl) (by kernel_rfl) (by kernel_rfl) (by kernel_rfl) (by kernel_rfl) f18.parts ⟨tisB_ok, EqsOk.cons eqB38 (EqsOk.nil _), FnsOk.cons f37.sound (FnsOk.cons f38.sound FnsOk.nil)⟩ rfl rfl (by kernel_rfl) (by kernel_rfl) eqB38 (by intros; kernel_rfl) (by intros; kernel_rfl)
/-! f10: adit/aditlaw7.known -/
def f10 : Option (Bool × Unit) :=
 Option.bind (f11 1 1 0 1 [(0, 0, 0, 0)] 0) fun y0 =>
  Option.bind (f14 y0.fst y0.snd.fst y0.snd.snd.fst y0.snd.snd.snd.fst y0.snd.snd.snd.snd.snd.snd.snd.snd.fst y0.snd.snd.snd.snd.snd.snd.snd.snd.snd.fst y0.snd.snd.snd.snd.snd.snd.snd.snd.snd.snd.fst y0.snd.snd.snd.snd.fst y0.snd.snd.snd.snd.snd.fst y0.snd.snd.snd.snd.snd.snd.fst y0.snd.snd.snd.snd.snd.snd.snd.fst 0 5) fun y1 =>
   Option.bind (f18 y0.fst y0.snd.fst y0.snd.snd.fst y0.snd.snd.snd.fst y0.snd.snd.snd.snd.snd.snd.snd.snd.fst y0.snd.snd.snd.snd.snd.snd.snd.snd.snd.fst y0.snd.snd.snd.snd.snd.snd.snd.snd.snd.snd.fst y0.snd.snd.snd.snd.fst y0.snd.snd.snd.snd.snd.fst y0.snd.snd.snd.snd.snd.snd.fst y0.snd.snd.snd.snd.snd.snd.snd.fst) fun y2 =>
    bif y2.fst then
     bif (↑(List.length y1.snd.snd.snd.snd.snd.snd.snd.snd.snd.snd.fst) : Int) == 40 then
      bif inRange 0 (List.length y1.snd.snd.snd.snd.snd.snd.snd.snd.snd.snd.fst) then
       some (((List.getD y1.snd.snd.snd.snd.snd.snd.snd.snd.snd.snd.fst 0 (0, 0, 0, 0)).fst == 1 && ((List.getD y1.snd.snd.snd.snd.snd.snd.snd.snd.snd.snd.fst 0 (0, 0, 0, 0)).snd.fst == 2 && ((List.getD y1.snd.snd.snd.snd.snd.snd.snd.snd.snd.snd.fst 0 (0, 0, 0, 0)).snd.snd.fst == 0 && ((List.getD y1.snd.snd.snd.snd.snd.snd.snd.snd.snd.snd.fst 0 (0, 0, 0, 0)).snd.snd.snd == 0 && Bool.true))), ()))
      else
       none
     else
      some ((Bool.false, ()))
    else
     some ((Bool.false, ()))
def f10.ins : Shape := ⟨[], []⟩
def f10.outs : List Shape := [⟨[(0, .c (.bool))], []⟩]
def f10.S : FnSpec := ⟨f10.ins, f10.outs, [], fun _ => f10⟩
def f10.E (fuel : Nat) : Env := ⟨tisB, [(11, f11.S), (14, f14.S), (18, f18.S)], [(38, [.int .i64, .int .i64, .int .i64, .int .i64])], [], [], [], 0, [], fuel⟩
theorem f10.run : ∀ x, runFn (f10.E 100000000000000000000) Go.Proofs.Try.f10 ((Go.Proofs.Try.f10.body).getD .skip) f10.S x = f10.S.f x := by intro x; kernel_rfl
theorem f10.sound : Sound Go.Proofs.Try.prog 10 f10.S := sound_of_run (fun _ => f10.E 100000000000000000000) (by kernel_rfl) (by kernel_rfl) (by kernel_rfl) ordersB (fun _ => ⟨tisB_ok, (EqsOk.cons eqB38 (EqsOk.nil _)), (FnsOk.cons f11.sound (FnsOk.cons f14.sound (FnsOk.cons f18.sound FnsOk.nil)))⟩) (fun _ => rfl) (by kernel_rfl) (by kernel_rfl) (fun x r h => (f10.run x).trans h)
/-! f13: adit/aditref7.Twin -/
def f13 (a0 : Int) (a1 : Int) (a2 : Int) (a3 : Int) (a4 : List Int) (a5 : List (Int × Int × Int × Int × Int × Int × Int × Int × Int × Int × Int)) (a6 : List (Int × Int × Int × Int)) (a7 : Int) (a8 : Int) (a9 : Int) (a10 : Int) : Option (Int × Int × Int × Int × Int × Int × Int × Int × List Int × List (Int × Int × Int × Int × Int × Int × Int × Int × Int × Int × Int) × List (Int × Int × Int × Int) × Unit) :=
 bif Decidable.decide (0 + List.length a4 ≤ limit 1) then
  bif Decidable.decide (0 + List.length a5 ≤ limit 88) then
   bif Decidable.decide (0 + List.length a6 ≤ limit 32) then
    some ((a0, a1, a2, a3, a7, a8, a9, a10, a4, a5, a6, ()))
   else
    none
  else
   none
 else
  none
def f13.ins : Shape := ⟨[(0, .agg [.int .i64, .int .i64, .int .i64, .int .i64, .row (.int .u8), .row (.prod (.int .i64) (.prod (.int .i64) (.prod (.int .i64) (.prod (.int .i64) (.prod (.int .i64) (.prod (.int .i64) (.prod (.int .i64) (.prod (.int .i64) (.prod (.int .i64) (.prod (.int .i64) (.int .i64))))))))))), .row (.prod (.int .i64) (.prod (.int .i64) (.prod (.int .i64) (.int .i64)))), .int .i64, .int .i64, .int .i64, .int .i64])], []⟩
def f13.outs : List Shape := [⟨[(0, .agg [.int .i64, .int .i64, .int .i64, .int .i64, .own 0, .own 1, .own 2, .int .i64, .int .i64, .int .i64, .int .i64])], [(0, .arr (.int .u8)), (1, .arr (.prod (.int .i64) (.prod (.int .i64) (.prod (.int .i64) (.prod (.int .i64) (.prod (.int .i64) (.prod (.int .i64) (.prod (.int .i64) (.prod (.int .i64) (.prod (.int .i64) (.prod (.int .i64) (.int .i64)))))))))))), (2, .arr (.prod (.int .i64) (.prod (.int .i64) (.prod (.int .i64) (.int .i64)))))]⟩]
def f13.S : FnSpec := ⟨f13.ins, f13.outs, [], fun x => f13 x.1 x.2.1 x.2.2.1 x.2.2.2.1 x.2.2.2.2.1 x.2.2.2.2.2.1 x.2.2.2.2.2.2.1 x.2.2.2.2.2.2.2.1 x.2.2.2.2.2.2.2.2.1 x.2.2.2.2.2.2.2.2.2.1 x.2.2.2.2.2.2.2.2.2.2.1⟩
def f13.E (fuel : Nat) : Env := ⟨tisB, [], [], [], [], [], 0, [], fuel⟩
theorem f13.run : ∀ x, runFn (f13.E 100000000000000000000) Go.Proofs.Try.f13 ((Go.Proofs.Try.f13.body).getD .skip) f13.S x = f13.S.f x := by intro x; kernel_rfl
theorem f13.sound : Sound Go.Proofs.Try.prog 13 f13.S := sound_of_run (fun _ => f13.E 100000000000000000000) (by kernel_rfl) (by kernel_rfl) (by kernel_rfl) ordersB (fun _ => ⟨tisB_ok, EqsOk.nil _, FnsOk.nil⟩) (fun _ => rfl) (by kernel_rfl) (by kernel_rfl) (fun x r h => (f13.run x).trans h)
/-! f19: adit/aditref5.Hero -/
def f19.L1 (x : List (Int × Int × Int × Int × Int × Int × Int × Int × Int × Int × Int) × Int × Int × Unit) : Option (Int × Unit) :=
 it (X := List (Int × Int × Int × Int × Int × Int × Int × Int × Int × Int × Int) × Int × Int × Unit) (fun rec x =>
 bif Decidable.decide (x.snd.snd.fst < (↑(List.length x.fst) : Int)) then
  bif inRange x.snd.snd.fst (List.length x.fst) then
   bif (List.getD x.fst (Int.toNat x.snd.snd.fst) (0, 0, 0, 0, 0, 0, 0, 0, 0, 0, 0)).fst == 1 then
    bif inRange x.snd.snd.fst (List.length x.fst) then
     bif (List.getD x.fst (Int.toNat x.snd.snd.fst) (0, 0, 0, 0, 0, 0, 0, 0, 0, 0, 0)).snd.snd.fst == x.snd.fst then
      some ((x.snd.snd.fst, ()))
     else
      rec (x.fst, x.snd.fst, Go.IntKind.wrap Go.IntKind.i64 (x.snd.snd.fst + 1), ())
    else
     none
   else
    rec (x.fst, x.snd.fst, Go.IntKind.wrap Go.IntKind.i64 (x.snd.snd.fst + 1), ())
  else
   none
 else
  some ((-1, ()))
 ) (100000000000000000000) (x)
def f19 (a0 : List (Int × Int × Int × Int × Int × Int × Int × Int × Int × Int × Int)) (a1 : Int) : Option (Int × Unit) :=
 f19.L1 ((a0, a1, 0, ()))
def f19.ins : Shape := ⟨[(0, .c (.row (.prod (.int .i64) (.prod (.int .i64) (.prod (.int .i64) (.prod (.int .i64) (.prod (.int .i64) (.prod (.int .i64) (.prod (.int .i64) (.prod (.int .i64) (.prod (.int .i64) (.prod (.int .i64) (.int .i64))))))))))))), (1, .c (.int .i64))], []⟩
def f19.outs : List Shape := [⟨[(0, .c (.int .i64))], []⟩]
def f19.S : FnSpec := ⟨f19.ins, f19.outs, [], fun x => f19 x.1 x.2.1⟩
def f19.E (fuel : Nat) : Env := ⟨tisB, [], [], [], [(3, ⟨[(0, .c (.row (.prod (.int .i64) (.prod (.int .i64) (.prod (.int .i64) (.prod (.int .i64) (.prod (.int .i64) (.prod (.int .i64) (.prod (.int .i64) (.prod (.int .i64) (.prod (.int .i64) (.prod (.int .i64) (.int .i64))))))))))))), (1, .c (.int .i64)), (5, .c (.int .i64))], []⟩)], [], 0, [], fuel⟩
theorem f19.run : ∀ x, runFn (f19.E 100000000000000000000) Go.Proofs.Try.f19 ((Go.Proofs.Try.f19.body).getD .skip) f19.S x = f19.S.f x := by intro x; kernel_rfl
theorem f19.sound : Sound Go.Proofs.Try.prog 19 f19.S := sound_of_run (fun _ => f19.E 100000000000000000000) (by kernel_rfl) (by kernel_rfl) (by kernel_rfl) ordersB (fun _ => ⟨tisB_ok, EqsOk.nil _, FnsOk.nil⟩) (fun _ => rfl) (by kernel_rfl) (by kernel_rfl) (fun x r h => (f19.run x).trans h)
/-! f20: adit/aditref7.Slot -/
def f20.L1 (x : List (Int × Int × Int × Int) × Int × Int × Unit) : Option (Int × Unit) :=
 it (X := List (Int × Int × Int × Int) × Int × Int × Unit) (fun rec x =>
 bif Decidable.decide (x.snd.snd.fst < 4) then
  Option.bind (f26 x.fst 2 x.snd.fst x.snd.snd.fst) fun y0 =>
   bif Decidable.decide (y0.fst < 0) then
    some ((x.snd.snd.fst, ()))
   else
    rec (x.fst, x.snd.fst, Go.IntKind.wrap Go.IntKind.i64 (x.snd.snd.fst + 1), ())
 else
  some ((-1, ()))
 ) (100000000000000000000) (x)
def f20 (a0 : List (Int × Int × Int × Int)) (a1 : Int) : Option (Int × Unit) :=
 f20.L1 ((a0, a1, 0, ()))
def f20.ins : Shape := ⟨[(0, .c (.row (.prod (.int .i64) (.prod (.int .i64) (.prod (.int .i64) (.int .i64)))))), (1, .c (.int .i64))], []⟩
def f20.outs : List Shape := [⟨[(0, .c (.int .i64))], []⟩]
def f20.S : FnSpec := ⟨f20.ins, f20.outs, [], fun x => f20 x.1 x.2.1⟩
def f20.E (fuel : Nat) : Env := ⟨tisB, [(26, f26.S)], [], [], [(3, ⟨[(0, .c (.row (.prod (.int .i64) (.prod (.int .i64) (.prod (.int .i64) (.int .i64)))))), (1, .c (.int .i64)), (5, .c (.int .i64))], []⟩)], [], 0, [], fuel⟩
theorem f20.run : ∀ x, runFn (f20.E 100000000000000000000) Go.Proofs.Try.f20 ((Go.Proofs.Try.f20.body).getD .skip) f20.S x = f20.S.f x := by intro x; kernel_rfl
theorem f20.sound : Sound Go.Proofs.Try.prog 20 f20.S := sound_of_run (fun _ => f20.E 100000000000000000000) (by kernel_rfl) (by kernel_rfl) (by kernel_rfl) ordersB (fun _ => ⟨tisB_ok, EqsOk.nil _, (FnsOk.cons f26.sound FnsOk.nil)⟩) (fun _ => rfl) (by kernel_rfl) (by kernel_rfl) (fun x r h => (f20.run x).trans h)
/-! f35: adit/aditref7.has -/
def f35.L1 (x : List (Int × Int × Int × Int) × Int × Int × Int × Int × Unit) : Option (Int × Unit) :=
 it (X := List (Int × Int × Int × Int) × Int × Int × Int × Int × Unit) (fun rec x =>
 bif Decidable.decide (x.snd.snd.snd.snd.fst < 4) then
  Option.bind (f26 x.fst 2 x.snd.fst x.snd.snd.snd.snd.fst) fun y0 =>
   bif Decidable.decide (y0.fst ≥ 0) then
    bif inRange y0.fst (List.length x.fst) then
     bif Decidable.decide ((List.getD x.fst (Int.toNat y0.fst) (0, 0, 0, 0)).fst ≥ x.snd.snd.fst) then
      bif inRange y0.fst (List.length x.fst) then
       bif Decidable.decide ((List.getD x.fst (Int.toNat y0.fst) (0, 0, 0, 0)).fst ≤ x.snd.snd.snd.fst) then
        some ((y0.fst, ()))
       else
        rec (x.fst, x.snd.fst, x.snd.snd.fst, x.snd.snd.snd.fst, Go.IntKind.wrap Go.IntKind.i64 (x.snd.snd.snd.snd.fst + 1), ())
      else
       none
     else
      rec (x.fst, x.snd.fst, x.snd.snd.fst, x.snd.snd.snd.fst, Go.IntKind.wrap Go.IntKind.i64 (x.snd.snd.snd.snd.fst + 1), ())
    else
     none
   else
    rec (x.fst, x.snd.fst, x.snd.snd.fst, x.snd.snd.snd.fst, Go.IntKind.wrap Go.IntKind.i64 (x.snd.snd.snd.snd.fst + 1), ())
 else
  some ((-1, ()))
 ) (100000000000000000000) (x)
def f35 (a0 : List (Int × Int × Int × Int)) (a1 : Int) (a2 : Int) (a3 : Int) : Option (Int × Unit) :=
 f35.L1 ((a0, a1, a2, a3, 0, ()))
def f35.ins : Shape := ⟨[(0, .c (.row (.prod (.int .i64) (.prod (.int .i64) (.prod (.int .i64) (.int .i64)))))), (1, .c (.int .i64)), (2, .c (.int .i64)), (3, .c (.int .i64))], []⟩
def f35.outs : List Shape := [⟨[(0, .c (.int .i64))], []⟩]
def f35.S : FnSpec := ⟨f35.ins, f35.outs, [], fun x => f35 x.1 x.2.1 x.2.2.1 x.2.2.2.1⟩
def f35.E (fuel : Nat) : Env := ⟨tisB, [(26, f26.S)], [], [], [(3, ⟨[(0, .c (.row (.prod (.int .i64) (.prod (.int .i64) (.prod (.int .i64) (.int .i64)))))), (1, .c (.int .i64)), (2, .c (.int .i64)), (3, .c (.int .i64)), (9, .c (.int .i64))], []⟩)], [], 0, [], fuel⟩
theorem f35.run : ∀ x, runFn (f35.E 100000000000000000000) Go.Proofs.Try.f35 ((Go.Proofs.Try.f35.body).getD .skip) f35.S x = f35.S.f x := by intro x; kernel_rfl
theorem f35.sound : Sound Go.Proofs.Try.prog 35 f35.S := sound_of_run (fun _ => f35.E 100000000000000000000) (by kernel_rfl) (by kernel_rfl) (by kernel_rfl) ordersB (fun _ => ⟨tisB_ok, EqsOk.nil _, (FnsOk.cons f26.sound FnsOk.nil)⟩) (fun _ => rfl) (by kernel_rfl) (by kernel_rfl) (fun x r h => (f35.run x).trans h)
/-! f34: adit/aditref7.Potion -/
def f34 (a0 : List (Int × Int × Int × Int)) (a1 : Int) : Option (Int × Unit) :=
 Option.bind (f35 a0 a1 1 1) fun y0 =>
  some ((y0.fst, ()))
def f34.ins : Shape := ⟨[(0, .c (.row (.prod (.int .i64) (.prod (.int .i64) (.prod (.int .i64) (.int .i64)))))), (1, .c (.int .i64))], []⟩
def f34.outs : List Shape := [⟨[(0, .c (.int .i64))], []⟩]
def f34.S : FnSpec := ⟨f34.ins, f34.outs, [], fun x => f34 x.1 x.2.1⟩
def f34.E (fuel : Nat) : Env := ⟨tisB, [(35, f35.S)], [], [], [], [], 0, [], fuel⟩
theorem f34.run : ∀ x, runFn (f34.E 100000000000000000000) Go.Proofs.Try.f34 ((Go.Proofs.Try.f34.body).getD .skip) f34.S x = f34.S.f x := by intro x; kernel_rfl
theorem f34.sound : Sound Go.Proofs.Try.prog 34 f34.S := sound_of_run (fun _ => f34.E 100000000000000000000) (by kernel_rfl) (by kernel_rfl) (by kernel_rfl) ordersB (fun _ => ⟨tisB_ok, EqsOk.nil _, (FnsOk.cons f35.sound FnsOk.nil)⟩) (fun _ => rfl) (by kernel_rfl) (by kernel_rfl) (fun x r h => (f34.run x).trans h)
/-! f16: adit/aditref7.Do -/
def f16.L1 (x : Int × Int × Int × Int × Int × Int × Int × Int × Int × Int × Int × Int × Int × Int × Int × Int × Int × Int × Int × Int × Int × Int × Int × Int × Int × Int × Int × Int × Int × Int × Int × List (Int × Int × Int × Int) × List Int × List (Int × Int × Int × Int × Int × Int × Int × Int × Int × Int × Int) × Unit) : Option (Int × Int × Int × Int × Int × Int × Int × Int × Int × Int × Int × Int × Int × Int × Int × Int × Int × Int × Int × Int × Int × Int × Int × Int × Int × Int × Int × Int × Int × Int × List (Int × Int × Int × Int) × List Int × List (Int × Int × Int × Int × Int × Int × Int × Int × Int × Int × Int) × Unit ⊕ Int × Int × Int × Int × Int × Int × Int × Int × Int × Int × Int × Int × Int × Int × Int × Int × List Int × List (Int × Int × Int × Int × Int × Int × Int × Int × Int × Int × Int) × List (Int × Int × Int × Int) × Unit ⊕ Int × Int × Int × Int × Int × Int × Int × Int × List Int × List (Int × Int × Int × Int × Int × Int × Int × Int × Int × Int × Int) × List (Int × Int × Int × Int) × Unit) :=
 it (X := Int × Int × Int × Int × Int × Int × Int × Int × Int × Int × Int × Int × Int × Int × Int × Int × Int × Int × Int × Int × Int × Int × Int × Int × Int × Int × Int × Int × Int × Int × Int × List (Int × Int × Int × Int) × List Int × List (Int × Int × Int × Int × Int × Int × Int × Int × Int × Int × Int) × Unit) (fun rec x =>
 bif Decidable.decide (x.snd.snd.snd.fst < 3) then
  bif Decidable.decide (x.snd.snd.fst < 0) then
   Option.bind (f26 x.snd.snd.snd.snd.snd.snd.snd.snd.snd.snd.snd.snd.snd.snd.snd.snd.snd.snd.snd.snd.snd.snd.snd.snd.snd.snd.snd.snd.snd.snd.snd.fst 4 x.snd.snd.snd.fst 0) fun y0 =>
    rec (x.fst, x.snd.fst, y0.fst, Go.IntKind.wrap Go.IntKind.i64 (x.snd.snd.snd.fst + 1), x.snd.snd.snd.snd.fst, x.snd.snd.snd.snd.snd.fst, x.snd.snd.snd.snd.snd.snd.fst, x.snd.snd.snd.snd.snd.snd.snd.fst, x.snd.snd.snd.snd.snd.snd.snd.snd.fst, x.snd.snd.snd.snd.snd.snd.snd.snd.snd.fst, x.snd.snd.snd.snd.snd.snd.snd.snd.snd.snd.fst, x.snd.snd.snd.snd.snd.snd.snd.snd.snd.snd.snd.fst, x.snd.snd.snd.snd.snd.snd.snd.snd.snd.snd.snd.snd.fst, x.snd.snd.snd.snd.snd.snd.snd.snd.snd.snd.snd.snd.snd.fst, x.snd.snd.snd.snd.snd.snd.snd.snd.snd.snd.snd.snd.snd.snd.fst, x.snd.snd.snd.snd.snd.snd.snd.snd.snd.snd.snd.snd.snd.snd.snd.fst, x.snd.snd.snd.snd.snd.snd.snd.snd.snd.snd.snd.snd.snd.snd.snd.snd.fst, x.snd.snd.snd.snd.snd.snd.snd.snd.snd.snd.snd.snd.snd.snd.snd.snd.snd.fst, x.snd.snd.snd.snd.snd.snd.snd.snd.snd.snd.snd.snd.snd.snd.snd.snd.snd.snd.fst, x.snd.snd.snd.snd.snd.snd.snd.snd.snd.snd.snd.snd.snd.snd.snd.snd.snd.snd.snd.fst, x.snd.snd.snd.snd.snd.snd.snd.snd.snd.snd.snd.snd.snd.snd.snd.snd.snd.snd.snd.snd.fst, x.snd.snd.snd.snd.snd.snd.snd.snd.snd.snd.snd.snd.snd.snd.snd.snd.snd.snd.snd.snd.snd.fst, x.snd.snd.snd.snd.snd.snd.snd.snd.snd.snd.snd.snd.snd.snd.snd.snd.snd.snd.snd.snd.snd.snd.fst, x.snd.snd.snd.snd.snd.snd.snd.snd.snd.snd.snd.snd.snd.snd.snd.snd.snd.snd.snd.snd.snd.snd.snd.fst, x.snd.snd.snd.snd.snd.snd.snd.snd.snd.snd.snd.snd.snd.snd.snd.snd.snd.snd.snd.snd.snd.snd.snd.snd.fst, x.snd.snd.snd.snd.snd.snd.snd.snd.snd.snd.snd.snd.snd.snd.snd.snd.snd.snd.snd.snd.snd.snd.snd.snd.snd.fst, x.snd.snd.snd.snd.snd.snd.snd.snd.snd.snd.snd.snd.snd.snd.snd.snd.snd.snd.snd.snd.snd.snd.snd.snd.snd.snd.fst, x.snd.snd.snd.snd.snd.snd.snd.snd.snd.snd.snd.snd.snd.snd.snd.snd.snd.snd.snd.snd.snd.snd.snd.snd.snd.snd.snd.fst, x.snd.snd.snd.snd.snd.snd.snd.snd.snd.snd.snd.snd.snd.snd.snd.snd.snd.snd.snd.snd.snd.snd.snd.snd.snd.snd.snd.snd.fst, x.snd.snd.snd.snd.snd.snd.snd.snd.snd.snd.snd.snd.snd.snd.snd.snd.snd.snd.snd.snd.snd.snd.snd.snd.snd.snd.snd.snd.snd.fst, x.snd.snd.snd.snd.snd.snd.snd.snd.snd.snd.snd.snd.snd.snd.snd.snd.snd.snd.snd.snd.snd.snd.snd.snd.snd.snd.snd.snd.snd.snd.fst, x.snd.snd.snd.snd.snd.snd.snd.snd.snd.snd.snd.snd.snd.snd.snd.snd.snd.snd.snd.snd.snd.snd.snd.snd.snd.snd.snd.snd.snd.snd.snd.fst, x.snd.snd.snd.snd.snd.snd.snd.snd.snd.snd.snd.snd.snd.snd.snd.snd.snd.snd.snd.snd.snd.snd.snd.snd.snd.snd.snd.snd.snd.snd.snd.snd.fst, x.snd.snd.snd.snd.snd.snd.snd.snd.snd.snd.snd.snd.snd.snd.snd.snd.snd.snd.snd.snd.snd.snd.snd.snd.snd.snd.snd.snd.snd.snd.snd.snd.snd.fst, ())
  else
   some (Sum.inl (x.fst, x.snd.fst, x.snd.snd.fst, x.snd.snd.snd.snd.fst, x.snd.snd.snd.snd.snd.fst, x.snd.snd.snd.snd.snd.snd.fst, x.snd.snd.snd.snd.snd.snd.snd.fst, x.snd.snd.snd.snd.snd.snd.snd.snd.fst, x.snd.snd.snd.snd.snd.snd.snd.snd.snd.fst, x.snd.snd.snd.snd.snd.snd.snd.snd.snd.snd.fst, x.snd.snd.snd.snd.snd.snd.snd.snd.snd.snd.snd.fst, x.snd.snd.snd.snd.snd.snd.snd.snd.snd.snd.snd.snd.fst, x.snd.snd.snd.snd.snd.snd.snd.snd.snd.snd.snd.snd.snd.fst, x.snd.snd.snd.snd.snd.snd.snd.snd.snd.snd.snd.snd.snd.snd.fst, x.snd.snd.snd.snd.snd.snd.snd.snd.snd.snd.snd.snd.snd.snd.snd.fst, x.snd.snd.snd.snd.snd.snd.snd.snd.snd.snd.snd.snd.snd.snd.snd.snd.fst, x.snd.snd.snd.snd.snd.snd.snd.snd.snd.snd.snd.snd.snd.snd.snd.snd.snd.fst, x.snd.snd.snd.snd.snd.snd.snd.snd.snd.snd.snd.snd.snd.snd.snd.snd.snd.snd.fst, x.snd.snd.snd.snd.snd.snd.snd.snd.snd.snd.snd.snd.snd.snd.snd.snd.snd.snd.snd.fst, x.snd.snd.snd.snd.snd.snd.snd.snd.snd.snd.snd.snd.snd.snd.snd.snd.snd.snd.snd.snd.fst, x.snd.snd.snd.snd.snd.snd.snd.snd.snd.snd.snd.snd.snd.snd.snd.snd.snd.snd.snd.snd.snd.fst, x.snd.snd.snd.snd.snd.snd.snd.snd.snd.snd.snd.snd.snd.snd.snd.snd.snd.snd.snd.snd.snd.snd.fst, x.snd.snd.snd.snd.snd.snd.snd.snd.snd.snd.snd.snd.snd.snd.snd.snd.snd.snd.snd.snd.snd.snd.snd.fst, x.snd.snd.snd.snd.snd.snd.snd.snd.snd.snd.snd.snd.snd.snd.snd.snd.snd.snd.snd.snd.snd.snd.snd.snd.fst, x.snd.snd.snd.snd.snd.snd.snd.snd.snd.snd.snd.snd.snd.snd.snd.snd.snd.snd.snd.snd.snd.snd.snd.snd.snd.fst, x.snd.snd.snd.snd.snd.snd.snd.snd.snd.snd.snd.snd.snd.snd.snd.snd.snd.snd.snd.snd.snd.snd.snd.snd.snd.snd.fst, x.snd.snd.snd.snd.snd.snd.snd.snd.snd.snd.snd.snd.snd.snd.snd.snd.snd.snd.snd.snd.snd.snd.snd.snd.snd.snd.snd.fst, x.snd.snd.snd.snd.snd.snd.snd.snd.snd.snd.snd.snd.snd.snd.snd.snd.snd.snd.snd.snd.snd.snd.snd.snd.snd.snd.snd.snd.fst, x.snd.snd.snd.snd.snd.snd.snd.snd.snd.snd.snd.snd.snd.snd.snd.snd.snd.snd.snd.snd.snd.snd.snd.snd.snd.snd.snd.snd.snd.fst, x.snd.snd.snd.snd.snd.snd.snd.snd.snd.snd.snd.snd.snd.snd.snd.snd.snd.snd.snd.snd.snd.snd.snd.snd.snd.snd.snd.snd.snd.snd.fst, x.snd.snd.snd.snd.snd.snd.snd.snd.snd.snd.snd.snd.snd.snd.snd.snd.snd.snd.snd.snd.snd.snd.snd.snd.snd.snd.snd.snd.snd.snd.snd.fst, x.snd.snd.snd.snd.snd.snd.snd.snd.snd.snd.snd.snd.snd.snd.snd.snd.snd.snd.snd.snd.snd.snd.snd.snd.snd.snd.snd.snd.snd.snd.snd.snd.fst, x.snd.snd.snd.snd.snd.snd.snd.snd.snd.snd.snd.snd.snd.snd.snd.snd.snd.snd.snd.snd.snd.snd.snd.snd.snd.snd.snd.snd.snd.snd.snd.snd.snd.fst, ()))
 else
  some (Sum.inl (x.fst, x.snd.fst, x.snd.snd.fst, x.snd.snd.snd.snd.fst, x.snd.snd.snd.snd.snd.fst, x.snd.snd.snd.snd.snd.snd.fst, x.snd.snd.snd.snd.snd.snd.snd.fst, x.snd.snd.snd.snd.snd.snd.snd.snd.fst, x.snd.snd.snd.snd.snd.snd.snd.snd.snd.fst, x.snd.snd.snd.snd.snd.snd.snd.snd.snd.snd.fst, x.snd.snd.snd.snd.snd.snd.snd.snd.snd.snd.snd.fst, x.snd.snd.snd.snd.snd.snd.snd.snd.snd.snd.snd.snd.fst, x.snd.snd.snd.snd.snd.snd.snd.snd.snd.snd.snd.snd.snd.fst, x.snd.snd.snd.snd.snd.snd.snd.snd.snd.snd.snd.snd.snd.snd.fst, x.snd.snd.snd.snd.snd.snd.snd.snd.snd.snd.snd.snd.snd.snd.snd.fst, x.snd.snd.snd.snd.snd.snd.snd.snd.snd.snd.snd.snd.snd.snd.snd.snd.fst, x.snd.snd.snd.snd.snd.snd.snd.snd.snd.snd.snd.snd.snd.snd.snd.snd.snd.fst, x.snd.snd.snd.snd.snd.snd.snd.snd.snd.snd.snd.snd.snd.snd.snd.snd.snd.snd.fst, x.snd.snd.snd.snd.snd.snd.snd.snd.snd.snd.snd.snd.snd.snd.snd.snd.snd.snd.snd.fst, x.snd.snd.snd.snd.snd.snd.snd.snd.snd.snd.snd.snd.snd.snd.snd.snd.snd.snd.snd.snd.fst, x.snd.snd.snd.snd.snd.snd.snd.snd.snd.snd.snd.snd.snd.snd.snd.snd.snd.snd.snd.snd.snd.fst, x.snd.snd.snd.snd.snd.snd.snd.snd.snd.snd.snd.snd.snd.snd.snd.snd.snd.snd.snd.snd.snd.snd.fst, x.snd.snd.snd.snd.snd.snd.snd.snd.snd.snd.snd.snd.snd.snd.snd.snd.snd.snd.snd.snd.snd.snd.snd.fst, x.snd.snd.snd.snd.snd.snd.snd.snd.snd.snd.snd.snd.snd.snd.snd.snd.snd.snd.snd.snd.snd.snd.snd.snd.fst, x.snd.snd.snd.snd.snd.snd.snd.snd.snd.snd.snd.snd.snd.snd.snd.snd.snd.snd.snd.snd.snd.snd.snd.snd.snd.fst, x.snd.snd.snd.snd.snd.snd.snd.snd.snd.snd.snd.snd.snd.snd.snd.snd.snd.snd.snd.snd.snd.snd.snd.snd.snd.snd.fst, x.snd.snd.snd.snd.snd.snd.snd.snd.snd.snd.snd.snd.snd.snd.snd.snd.snd.snd.snd.snd.snd.snd.snd.snd.snd.snd.snd.fst, x.snd.snd.snd.snd.snd.snd.snd.snd.snd.snd.snd.snd.snd.snd.snd.snd.snd.snd.snd.snd.snd.snd.snd.snd.snd.snd.snd.snd.fst, x.snd.snd.snd.snd.snd.snd.snd.snd.snd.snd.snd.snd.snd.snd.snd.snd.snd.snd.snd.snd.snd.snd.snd.snd.snd.snd.snd.snd.snd.fst, x.snd.snd.snd.snd.snd.snd.snd.snd.snd.snd.snd.snd.snd.snd.snd.snd.snd.snd.snd.snd.snd.snd.snd.snd.snd.snd.snd.snd.snd.snd.fst, x.snd.snd.snd.snd.snd.snd.snd.snd.snd.snd.snd.snd.snd.snd.snd.snd.snd.snd.snd.snd.snd.snd.snd.snd.snd.snd.snd.snd.snd.snd.snd.fst, x.snd.snd.snd.snd.snd.snd.snd.snd.snd.snd.snd.snd.snd.snd.snd.snd.snd.snd.snd.snd.snd.snd.snd.snd.snd.snd.snd.snd.snd.snd.snd.snd.fst, x.snd.snd.snd.snd.snd.snd.snd.snd.snd.snd.snd.snd.snd.snd.snd.snd.snd.snd.snd.snd.snd.snd.snd.snd.snd.snd.snd.snd.snd.snd.snd.snd.snd.fst, ()))
 ) (100000000000000000000) (x)
def f16 (a0 : Int) (a1 : Int) (a2 : Int) (a3 : Int) (a4 : List Int) (a5 : List (Int × Int × Int × Int × Int × Int × Int × Int × Int × Int × Int)) (a6 : List (Int × Int × Int × Int)) (a7 : Int) (a8 : Int) (a9 : Int) (a10 : Int) (a11 : Int) (a12 : Int) : Option (Int × Int × Int × Int × Int × Int × Int × Int × List Int × List (Int × Int × Int × Int × Int × Int × Int × Int × Int × Int × Int) × List (Int × Int × Int × Int) × Unit) :=
 Option.bind (f13 a0 a1 a2 a3 a4 a5 a6 a7 a8 a9 a10) fun y0 =>
  Option.bind (f19 y0.snd.snd.snd.snd.snd.snd.snd.snd.snd.fst a11) fun y1 =>
   bif Decidable.decide (y1.fst < 0) then
    some ((y0.fst, y0.snd.fst, y0.snd.snd.fst, y0.snd.snd.snd.fst, y0.snd.snd.snd.snd.fst, y0.snd.snd.snd.snd.snd.fst, y0.snd.snd.snd.snd.snd.snd.fst, y0.snd.snd.snd.snd.snd.snd.snd.fst, y0.snd.snd.snd.snd.snd.snd.snd.snd.fst, y0.snd.snd.snd.snd.snd.snd.snd.snd.snd.fst, y0.snd.snd.snd.snd.snd.snd.snd.snd.snd.snd.fst, ()))
   else
    bif Decidable.decide (a11 < 0) then
     some ((y0.fst, y0.snd.fst, y0.snd.snd.fst, y0.snd.snd.snd.fst, y0.snd.snd.snd.snd.fst, y0.snd.snd.snd.snd.snd.fst, y0.snd.snd.snd.snd.snd.snd.fst, y0.snd.snd.snd.snd.snd.snd.snd.fst, y0.snd.snd.snd.snd.snd.snd.snd.snd.fst, y0.snd.snd.snd.snd.snd.snd.snd.snd.snd.fst, y0.snd.snd.snd.snd.snd.snd.snd.snd.snd.snd.fst, ()))
    else
     bif Decidable.decide (a11 ≥ 4) then
      some ((y0.fst, y0.snd.fst, y0.snd.snd.fst, y0.snd.snd.snd.fst, y0.snd.snd.snd.snd.fst, y0.snd.snd.snd.snd.snd.fst, y0.snd.snd.snd.snd.snd.snd.fst, y0.snd.snd.snd.snd.snd.snd.snd.fst, y0.snd.snd.snd.snd.snd.snd.snd.snd.fst, y0.snd.snd.snd.snd.snd.snd.snd.snd.snd.fst, y0.snd.snd.snd.snd.snd.snd.snd.snd.snd.snd.fst, ()))
     else
      bif inRange y1.fst (List.length y0.snd.snd.snd.snd.snd.snd.snd.snd.snd.fst) then
       Option.bind (f26 y0.snd.snd.snd.snd.snd.snd.snd.snd.snd.snd.fst 1 (List.getD y0.snd.snd.snd.snd.snd.snd.snd.snd.snd.fst (Int.toNat y1.fst) (0, 0, 0, 0, 0, 0, 0, 0, 0, 0, 0)).snd.snd.snd.fst (List.getD y0.snd.snd.snd.snd.snd.snd.snd.snd.snd.fst (Int.toNat y1.fst) (0, 0, 0, 0, 0, 0, 0, 0, 0, 0, 0)).snd.snd.snd.snd.fst) fun y2 =>
        Option.bind (f20 y0.snd.snd.snd.snd.snd.snd.snd.snd.snd.snd.fst a11) fun y3 =>
         Option.bind (α := Int × Int × Int × Int × Int × Int × Int × Int × Int × Int × Int × Int × Int × Int × Int × Int × List Int × List (Int × Int × Int × Int × Int × Int × Int × Int × Int × Int × Int) × List (Int × Int × Int × Int) × Unit ⊕ Int × Int × Int × Int × Int × Int × Int × Int × List Int × List (Int × Int × Int × Int × Int × Int × Int × Int × Int × Int × Int) × List (Int × Int × Int × Int) × Unit) (
          bif a12 == 5 then
           Option.bind (α := Int × Int × Int × Bool × Int × Int × Int × Int × Int × Int × Int × Int × Int × Int × Int × Int × Int × Int × Int × Int × List (Int × Int × Int × Int) × List Int × List (Int × Int × Int × Int × Int × Int × Int × Int × Int × Int × Int) × Unit ⊕ Int × Int × Int × Int × Int × Int × Int × Int × Int × Int × Int × Int × Int × Int × Int × Int × List Int × List (Int × Int × Int × Int × Int × Int × Int × Int × Int × Int × Int) × List (Int × Int × Int × Int) × Unit ⊕ Int × Int × Int × Int × Int × Int × Int × Int × List Int × List (Int × Int × Int × Int × Int × Int × Int × Int × Int × Int × Int) × List (Int × Int × Int × Int) × Unit) (
            bif Decidable.decide (y2.fst ≥ 0) then
             bif inRange y2.fst (List.length y0.snd.snd.snd.snd.snd.snd.snd.snd.snd.snd.fst) then
              some (Sum.inl (a11, y2.fst, y3.fst, (List.getD y0.snd.snd.snd.snd.snd.snd.snd.snd.snd.snd.fst (Int.toNat y2.fst) (0, 0, 0, 0)).fst == 4, y0.fst, y0.snd.fst, y0.snd.snd.fst, y0.snd.snd.snd.fst, y0.snd.snd.snd.snd.fst, y0.snd.snd.snd.snd.snd.fst, y0.snd.snd.snd.snd.snd.snd.fst, y0.snd.snd.snd.snd.snd.snd.snd.fst, 0, 0, 0, 0, 0, 0, 0, 0, y0.snd.snd.snd.snd.snd.snd.snd.snd.snd.snd.fst, y0.snd.snd.snd.snd.snd.snd.snd.snd.fst, y0.snd.snd.snd.snd.snd.snd.snd.snd.snd.fst, ()))
             else
              none
            else
             some (Sum.inl (a11, y2.fst, y3.fst, Bool.false, y0.fst, y0.snd.fst, y0.snd.snd.fst, y0.snd.snd.snd.fst, y0.snd.snd.snd.snd.fst, y0.snd.snd.snd.snd.snd.fst, y0.snd.snd.snd.snd.snd.snd.fst, y0.snd.snd.snd.snd.snd.snd.snd.fst, 0, 0, 0, 0, 0, 0, 0, 0, y0.snd.snd.snd.snd.snd.snd.snd.snd.snd.snd.fst, y0.snd.snd.snd.snd.snd.snd.snd.snd.fst, y0.snd.snd.snd.snd.snd.snd.snd.snd.snd.fst, ()))
           ) fun y7 =>
            Sum.elim (fun y8 =>
             bif y8.snd.snd.snd.fst then
              bif inRange y8.fst 4 then
               bif inRange y8.fst 4 then
                bif inRange y8.snd.fst (List.length y8.snd.snd.snd.snd.snd.snd.snd.snd.snd.snd.snd.snd.snd.snd.snd.snd.snd.snd.snd.snd.fst) then
                 some (Sum.inl (y8.snd.snd.snd.snd.fst, y8.snd.snd.snd.snd.snd.fst, y8.snd.snd.snd.snd.snd.snd.fst, y8.snd.snd.snd.snd.snd.snd.snd.fst, if Int.toNat y8.fst = 0 / 1 then minI (Go.IntKind.wrap Go.IntKind.i64 (List.getD [y8.snd.snd.snd.snd.snd.snd.snd.snd.fst, y8.snd.snd.snd.snd.snd.snd.snd.snd.snd.fst, y8.snd.snd.snd.snd.snd.snd.snd.snd.snd.snd.fst, y8.snd.snd.snd.snd.snd.snd.snd.snd.snd.snd.snd.fst] (Int.toNat y8.fst) 0 + 5)) 999 else y8.snd.snd.snd.snd.snd.snd.snd.snd.fst, if Int.toNat y8.fst = (0 + 1) / 1 then minI (Go.IntKind.wrap Go.IntKind.i64 (List.getD [y8.snd.snd.snd.snd.snd.snd.snd.snd.fst, y8.snd.snd.snd.snd.snd.snd.snd.snd.snd.fst, y8.snd.snd.snd.snd.snd.snd.snd.snd.snd.snd.fst, y8.snd.snd.snd.snd.snd.snd.snd.snd.snd.snd.snd.fst] (Int.toNat y8.fst) 0 + 5)) 999 else y8.snd.snd.snd.snd.snd.snd.snd.snd.snd.fst, if Int.toNat y8.fst = (0 + 1 + 1) / 1 then minI (Go.IntKind.wrap Go.IntKind.i64 (List.getD [y8.snd.snd.snd.snd.snd.snd.snd.snd.fst, y8.snd.snd.snd.snd.snd.snd.snd.snd.snd.fst, y8.snd.snd.snd.snd.snd.snd.snd.snd.snd.snd.fst, y8.snd.snd.snd.snd.snd.snd.snd.snd.snd.snd.snd.fst] (Int.toNat y8.fst) 0 + 5)) 999 else y8.snd.snd.snd.snd.snd.snd.snd.snd.snd.snd.fst, if Int.toNat y8.fst = (0 + 1 + 1 + 1) / 1 then minI (Go.IntKind.wrap Go.IntKind.i64 (List.getD [y8.snd.snd.snd.snd.snd.snd.snd.snd.fst, y8.snd.snd.snd.snd.snd.snd.snd.snd.snd.fst, y8.snd.snd.snd.snd.snd.snd.snd.snd.snd.snd.fst, y8.snd.snd.snd.snd.snd.snd.snd.snd.snd.snd.snd.fst] (Int.toNat y8.fst) 0 + 5)) 999 else y8.snd.snd.snd.snd.snd.snd.snd.snd.snd.snd.snd.fst, y8.snd.snd.snd.snd.snd.snd.snd.snd.snd.snd.snd.snd.fst, y8.snd.snd.snd.snd.snd.snd.snd.snd.snd.snd.snd.snd.snd.fst, y8.snd.snd.snd.snd.snd.snd.snd.snd.snd.snd.snd.snd.snd.snd.fst, y8.snd.snd.snd.snd.snd.snd.snd.snd.snd.snd.snd.snd.snd.snd.snd.fst, y8.snd.snd.snd.snd.snd.snd.snd.snd.snd.snd.snd.snd.snd.snd.snd.snd.fst, y8.snd.snd.snd.snd.snd.snd.snd.snd.snd.snd.snd.snd.snd.snd.snd.snd.snd.fst, y8.snd.snd.snd.snd.snd.snd.snd.snd.snd.snd.snd.snd.snd.snd.snd.snd.snd.snd.fst, y8.snd.snd.snd.snd.snd.snd.snd.snd.snd.snd.snd.snd.snd.snd.snd.snd.snd.snd.snd.fst, y8.snd.snd.snd.snd.snd.snd.snd.snd.snd.snd.snd.snd.snd.snd.snd.snd.snd.snd.snd.snd.snd.fst, y8.snd.snd.snd.snd.snd.snd.snd.snd.snd.snd.snd.snd.snd.snd.snd.snd.snd.snd.snd.snd.snd.snd.fst, List.set y8.snd.snd.snd.snd.snd.snd.snd.snd.snd.snd.snd.snd.snd.snd.snd.snd.snd.snd.snd.snd.fst (Int.toNat y8.snd.fst) (0, 0, 0, 0), ()))
                else
                 none
               else
                none
              else
               none
             else
              bif Decidable.decide (y8.snd.fst ≥ 0) then
               bif Decidable.decide (y8.snd.snd.fst ≥ 0) then
                bif inRange y8.snd.fst (List.length y8.snd.snd.snd.snd.snd.snd.snd.snd.snd.snd.snd.snd.snd.snd.snd.snd.snd.snd.snd.snd.fst) then
                 let s0 : List (Int × Int × Int × Int) := List.set y8.snd.snd.snd.snd.snd.snd.snd.snd.snd.snd.snd.snd.snd.snd.snd.snd.snd.snd.snd.snd.fst (Int.toNat y8.snd.fst) ((List.getD y8.snd.snd.snd.snd.snd.snd.snd.snd.snd.snd.snd.snd.snd.snd.snd.snd.snd.snd.snd.snd.fst (Int.toNat y8.snd.fst) (0, 0, 0, 0)).fst, 2, (List.getD y8.snd.snd.snd.snd.snd.snd.snd.snd.snd.snd.snd.snd.snd.snd.snd.snd.snd.snd.snd.snd.fst (Int.toNat y8.snd.fst) (0, 0, 0, 0)).snd.snd.fst, (List.getD y8.snd.snd.snd.snd.snd.snd.snd.snd.snd.snd.snd.snd.snd.snd.snd.snd.snd.snd.snd.snd.fst (Int.toNat y8.snd.fst) (0, 0, 0, 0)).snd.snd.snd)
                 bif inRange y8.snd.fst (List.length s0) then
                  let s1 : List (Int × Int × Int × Int) := List.set s0 (Int.toNat y8.snd.fst) ((List.getD s0 (Int.toNat y8.snd.fst) (0, 0, 0, 0)).fst, (List.getD s0 (Int.toNat y8.snd.fst) (0, 0, 0, 0)).snd.fst, y8.fst, (List.getD s0 (Int.toNat y8.snd.fst) (0, 0, 0, 0)).snd.snd.snd)
                  bif inRange y8.snd.fst (List.length s1) then
                   let s2 : List (Int × Int × Int × Int) := List.set s1 (Int.toNat y8.snd.fst) ((List.getD s1 (Int.toNat y8.snd.fst) (0, 0, 0, 0)).fst, (List.getD s1 (Int.toNat y8.snd.fst) (0, 0, 0, 0)).snd.fst, (List.getD s1 (Int.toNat y8.snd.fst) (0, 0, 0, 0)).snd.snd.fst, y8.snd.snd.fst)
                   some (Sum.inl (y8.snd.snd.snd.snd.fst, y8.snd.snd.snd.snd.snd.fst, y8.snd.snd.snd.snd.snd.snd.fst, y8.snd.snd.snd.snd.snd.snd.snd.fst, y8.snd.snd.snd.snd.snd.snd.snd.snd.fst, y8.snd.snd.snd.snd.snd.snd.snd.snd.snd.fst, y8.snd.snd.snd.snd.snd.snd.snd.snd.snd.snd.fst, y8.snd.snd.snd.snd.snd.snd.snd.snd.snd.snd.snd.fst, y8.snd.snd.snd.snd.snd.snd.snd.snd.snd.snd.snd.snd.fst, y8.snd.snd.snd.snd.snd.snd.snd.snd.snd.snd.snd.snd.snd.fst, y8.snd.snd.snd.snd.snd.snd.snd.snd.snd.snd.snd.snd.snd.snd.fst, y8.snd.snd.snd.snd.snd.snd.snd.snd.snd.snd.snd.snd.snd.snd.snd.fst, y8.snd.snd.snd.snd.snd.snd.snd.snd.snd.snd.snd.snd.snd.snd.snd.snd.fst, y8.snd.snd.snd.snd.snd.snd.snd.snd.snd.snd.snd.snd.snd.snd.snd.snd.snd.fst, y8.snd.snd.snd.snd.snd.snd.snd.snd.snd.snd.snd.snd.snd.snd.snd.snd.snd.snd.fst, y8.snd.snd.snd.snd.snd.snd.snd.snd.snd.snd.snd.snd.snd.snd.snd.snd.snd.snd.snd.fst, y8.snd.snd.snd.snd.snd.snd.snd.snd.snd.snd.snd.snd.snd.snd.snd.snd.snd.snd.snd.snd.snd.fst, y8.snd.snd.snd.snd.snd.snd.snd.snd.snd.snd.snd.snd.snd.snd.snd.snd.snd.snd.snd.snd.snd.snd.fst, s2, ()))
                  else
                   none
                 else
                  none
                else
                 none
               else
                some (Sum.inl (y8.snd.snd.snd.snd.fst, y8.snd.snd.snd.snd.snd.fst, y8.snd.snd.snd.snd.snd.snd.fst, y8.snd.snd.snd.snd.snd.snd.snd.fst, y8.snd.snd.snd.snd.snd.snd.snd.snd.fst, y8.snd.snd.snd.snd.snd.snd.snd.snd.snd.fst, y8.snd.snd.snd.snd.snd.snd.snd.snd.snd.snd.fst, y8.snd.snd.snd.snd.snd.snd.snd.snd.snd.snd.snd.fst, y8.snd.snd.snd.snd.snd.snd.snd.snd.snd.snd.snd.snd.fst, y8.snd.snd.snd.snd.snd.snd.snd.snd.snd.snd.snd.snd.snd.fst, y8.snd.snd.snd.snd.snd.snd.snd.snd.snd.snd.snd.snd.snd.snd.fst, y8.snd.snd.snd.snd.snd.snd.snd.snd.snd.snd.snd.snd.snd.snd.snd.fst, y8.snd.snd.snd.snd.snd.snd.snd.snd.snd.snd.snd.snd.snd.snd.snd.snd.fst, y8.snd.snd.snd.snd.snd.snd.snd.snd.snd.snd.snd.snd.snd.snd.snd.snd.snd.fst, y8.snd.snd.snd.snd.snd.snd.snd.snd.snd.snd.snd.snd.snd.snd.snd.snd.snd.snd.fst, y8.snd.snd.snd.snd.snd.snd.snd.snd.snd.snd.snd.snd.snd.snd.snd.snd.snd.snd.snd.fst, y8.snd.snd.snd.snd.snd.snd.snd.snd.snd.snd.snd.snd.snd.snd.snd.snd.snd.snd.snd.snd.snd.fst, y8.snd.snd.snd.snd.snd.snd.snd.snd.snd.snd.snd.snd.snd.snd.snd.snd.snd.snd.snd.snd.snd.snd.fst, y8.snd.snd.snd.snd.snd.snd.snd.snd.snd.snd.snd.snd.snd.snd.snd.snd.snd.snd.snd.snd.fst, ()))
              else
               some (Sum.inl (y8.snd.snd.snd.snd.fst, y8.snd.snd.snd.snd.snd.fst, y8.snd.snd.snd.snd.snd.snd.fst, y8.snd.snd.snd.snd.snd.snd.snd.fst, y8.snd.snd.snd.snd.snd.snd.snd.snd.fst, y8.snd.snd.snd.snd.snd.snd.snd.snd.snd.fst, y8.snd.snd.snd.snd.snd.snd.snd.snd.snd.snd.fst, y8.snd.snd.snd.snd.snd.snd.snd.snd.snd.snd.snd.fst, y8.snd.snd.snd.snd.snd.snd.snd.snd.snd.snd.snd.snd.fst, y8.snd.snd.snd.snd.snd.snd.snd.snd.snd.snd.snd.snd.snd.fst, y8.snd.snd.snd.snd.snd.snd.snd.snd.snd.snd.snd.snd.snd.snd.fst, y8.snd.snd.snd.snd.snd.snd.snd.snd.snd.snd.snd.snd.snd.snd.snd.fst, y8.snd.snd.snd.snd.snd.snd.snd.snd.snd.snd.snd.snd.snd.snd.snd.snd.fst, y8.snd.snd.snd.snd.snd.snd.snd.snd.snd.snd.snd.snd.snd.snd.snd.snd.snd.fst, y8.snd.snd.snd.snd.snd.snd.snd.snd.snd.snd.snd.snd.snd.snd.snd.snd.snd.snd.fst, y8.snd.snd.snd.snd.snd.snd.snd.snd.snd.snd.snd.snd.snd.snd.snd.snd.snd.snd.snd.fst, y8.snd.snd.snd.snd.snd.snd.snd.snd.snd.snd.snd.snd.snd.snd.snd.snd.snd.snd.snd.snd.snd.fst, y8.snd.snd.snd.snd.snd.snd.snd.snd.snd.snd.snd.snd.snd.snd.snd.snd.snd.snd.snd.snd.snd.snd.fst, y8.snd.snd.snd.snd.snd.snd.snd.snd.snd.snd.snd.snd.snd.snd.snd.snd.snd.snd.snd.snd.fst, ()))
            ) (fun z9 =>
             some (z9)
            ) (y7)
          else
           bif a12 == 6 then
            Option.bind (f34 y0.snd.snd.snd.snd.snd.snd.snd.snd.snd.snd.fst a11) fun y10 =>
             bif Decidable.decide (y10.fst ≥ 0) then
              bif inRange y10.fst (List.length y0.snd.snd.snd.snd.snd.snd.snd.snd.snd.snd.fst) then
               bif inRange y1.fst (List.length y0.snd.snd.snd.snd.snd.snd.snd.snd.snd.fst) then
                let s0 : List (Int × Int × Int × Int × Int × Int × Int × Int × Int × Int × Int) := List.set y0.snd.snd.snd.snd.snd.snd.snd.snd.snd.fst (Int.toNat y1.fst) ((List.getD y0.snd.snd.snd.snd.snd.snd.snd.snd.snd.fst (Int.toNat y1.fst) (0, 0, 0, 0, 0, 0, 0, 0, 0, 0, 0)).fst, (List.getD y0.snd.snd.snd.snd.snd.snd.snd.snd.snd.fst (Int.toNat y1.fst) (0, 0, 0, 0, 0, 0, 0, 0, 0, 0, 0)).snd.fst, (List.getD y0.snd.snd.snd.snd.snd.snd.snd.snd.snd.fst (Int.toNat y1.fst) (0, 0, 0, 0, 0, 0, 0, 0, 0, 0, 0)).snd.snd.fst, (List.getD y0.snd.snd.snd.snd.snd.snd.snd.snd.snd.fst (Int.toNat y1.fst) (0, 0, 0, 0, 0, 0, 0, 0, 0, 0, 0)).snd.snd.snd.fst, (List.getD y0.snd.snd.snd.snd.snd.snd.snd.snd.snd.fst (Int.toNat y1.fst) (0, 0, 0, 0, 0, 0, 0, 0, 0, 0, 0)).snd.snd.snd.snd.fst, minI (Go.IntKind.wrap Go.IntKind.i64 ((List.getD y0.snd.snd.snd.snd.snd.snd.snd.snd.snd.fst (Int.toNat y1.fst) (0, 0, 0, 0, 0, 0, 0, 0, 0, 0, 0)).snd.snd.snd.snd.snd.fst + 6)) (List.getD y0.snd.snd.snd.snd.snd.snd.snd.snd.snd.fst (Int.toNat y1.fst) (0, 0, 0, 0, 0, 0, 0, 0, 0, 0, 0)).snd.snd.snd.snd.snd.snd.fst, (List.getD y0.snd.snd.snd.snd.snd.snd.snd.snd.snd.fst (Int.toNat y1.fst) (0, 0, 0, 0, 0, 0, 0, 0, 0, 0, 0)).snd.snd.snd.snd.snd.snd.fst, (List.getD y0.snd.snd.snd.snd.snd.snd.snd.snd.snd.fst (Int.toNat y1.fst) (0, 0, 0, 0, 0, 0, 0, 0, 0, 0, 0)).snd.snd.snd.snd.snd.snd.snd.fst, (List.getD y0.snd.snd.snd.snd.snd.snd.snd.snd.snd.fst (Int.toNat y1.fst) (0, 0, 0, 0, 0, 0, 0, 0, 0, 0, 0)).snd.snd.snd.snd.snd.snd.snd.snd.fst, (List.getD y0.snd.snd.snd.snd.snd.snd.snd.snd.snd.fst (Int.toNat y1.fst) (0, 0, 0, 0, 0, 0, 0, 0, 0, 0, 0)).snd.snd.snd.snd.snd.snd.snd.snd.snd.fst, (List.getD y0.snd.snd.snd.snd.snd.snd.snd.snd.snd.fst (Int.toNat y1.fst) (0, 0, 0, 0, 0, 0, 0, 0, 0, 0, 0)).snd.snd.snd.snd.snd.snd.snd.snd.snd.snd)
                bif inRange y1.fst (List.length s0) then
                 let s1 : List (Int × Int × Int × Int × Int × Int × Int × Int × Int × Int × Int) := List.set s0 (Int.toNat y1.fst) ((List.getD s0 (Int.toNat y1.fst) (0, 0, 0, 0, 0, 0, 0, 0, 0, 0, 0)).fst, (List.getD s0 (Int.toNat y1.fst) (0, 0, 0, 0, 0, 0, 0, 0, 0, 0, 0)).snd.fst, (List.getD s0 (Int.toNat y1.fst) (0, 0, 0, 0, 0, 0, 0, 0, 0, 0, 0)).snd.snd.fst, (List.getD s0 (Int.toNat y1.fst) (0, 0, 0, 0, 0, 0, 0, 0, 0, 0, 0)).snd.snd.snd.fst, (List.getD s0 (Int.toNat y1.fst) (0, 0, 0, 0, 0, 0, 0, 0, 0, 0, 0)).snd.snd.snd.snd.fst, (List.getD s0 (Int.toNat y1.fst) (0, 0, 0, 0, 0, 0, 0, 0, 0, 0, 0)).snd.snd.snd.snd.snd.fst, (List.getD s0 (Int.toNat y1.fst) (0, 0, 0, 0, 0, 0, 0, 0, 0, 0, 0)).snd.snd.snd.snd.snd.snd.fst, (List.getD s0 (Int.toNat y1.fst) (0, 0, 0, 0, 0, 0, 0, 0, 0, 0, 0)).snd.snd.snd.snd.snd.snd.snd.fst, (List.getD s0 (Int.toNat y1.fst) (0, 0, 0, 0, 0, 0, 0, 0, 0, 0, 0)).snd.snd.snd.snd.snd.snd.snd.snd.fst, 0, (List.getD s0 (Int.toNat y1.fst) (0, 0, 0, 0, 0, 0, 0, 0, 0, 0, 0)).snd.snd.snd.snd.snd.snd.snd.snd.snd.snd)
                 some (Sum.inl (y0.fst, y0.snd.fst, y0.snd.snd.fst, y0.snd.snd.snd.fst, y0.snd.snd.snd.snd.fst, y0.snd.snd.snd.snd.snd.fst, y0.snd.snd.snd.snd.snd.snd.fst, y0.snd.snd.snd.snd.snd.snd.snd.fst, 0, 0, 0, 0, 0, 0, 0, 0, y0.snd.snd.snd.snd.snd.snd.snd.snd.fst, s1, List.set y0.snd.snd.snd.snd.snd.snd.snd.snd.snd.snd.fst (Int.toNat y10.fst) (0, 0, 0, 0), ()))
                else
                 none
               else
                none
              else
               none
             else
              some (Sum.inl (y0.fst, y0.snd.fst, y0.snd.snd.fst, y0.snd.snd.snd.fst, y0.snd.snd.snd.snd.fst, y0.snd.snd.snd.snd.snd.fst, y0.snd.snd.snd.snd.snd.snd.fst, y0.snd.snd.snd.snd.snd.snd.snd.fst, 0, 0, 0, 0, 0, 0, 0, 0, y0.snd.snd.snd.snd.snd.snd.snd.snd.fst, y0.snd.snd.snd.snd.snd.snd.snd.snd.snd.fst, y0.snd.snd.snd.snd.snd.snd.snd.snd.snd.snd.fst, ()))
           else
            bif a12 == 7 then
             Option.bind (f35 y0.snd.snd.snd.snd.snd.snd.snd.snd.snd.snd.fst a11 2 3) fun y11 =>
              bif Decidable.decide (y11.fst ≥ 0) then
               bif inRange y11.fst (List.length y0.snd.snd.snd.snd.snd.snd.snd.snd.snd.snd.fst) then
                Option.bind (f26 y0.snd.snd.snd.snd.snd.snd.snd.snd.snd.snd.fst 3 a11 (Go.IntKind.wrap Go.IntKind.i64 ((List.getD y0.snd.snd.snd.snd.snd.snd.snd.snd.snd.snd.fst (Int.toNat y11.fst) (0, 0, 0, 0)).fst - 2))) fun y12 =>
                 Option.bind (α := Int × Int × Int × Int × Int × Int × Int × Int × Int × Int × Int × Int × Int × Int × Int × Int × Int × Int × List (Int × Int × Int × Int) × List Int × List (Int × Int × Int × Int × Int × Int × Int × Int × Int × Int × Int) × Unit ⊕ Int × Int × Int × Int × Int × Int × Int × Int × Int × Int × Int × Int × Int × Int × Int × Int × List Int × List (Int × Int × Int × Int × Int × Int × Int × Int × Int × Int × Int) × List (Int × Int × Int × Int) × Unit ⊕ Int × Int × Int × Int × Int × Int × Int × Int × List Int × List (Int × Int × Int × Int × Int × Int × Int × Int × Int × Int × Int) × List (Int × Int × Int × Int) × Unit) (
                  bif Decidable.decide (y12.fst ≥ 0) then
                   bif inRange y11.fst (List.length y0.snd.snd.snd.snd.snd.snd.snd.snd.snd.snd.fst) then
                    bif inRange y12.fst (List.length y0.snd.snd.snd.snd.snd.snd.snd.snd.snd.snd.fst) then
                     let s0 : List (Int × Int × Int × Int) := List.set y0.snd.snd.snd.snd.snd.snd.snd.snd.snd.snd.fst (Int.toNat y12.fst) ((List.getD y0.snd.snd.snd.snd.snd.snd.snd.snd.snd.snd.fst (Int.toNat y12.fst) (0, 0, 0, 0)).fst, 2, (List.getD y0.snd.snd.snd.snd.snd.snd.snd.snd.snd.snd.fst (Int.toNat y12.fst) (0, 0, 0, 0)).snd.snd.fst, (List.getD y0.snd.snd.snd.snd.snd.snd.snd.snd.snd.snd.fst (Int.toNat y12.fst) (0, 0, 0, 0)).snd.snd.snd)
                     bif inRange y12.fst (List.length s0) then
                      let s1 : List (Int × Int × Int × Int) := List.set s0 (Int.toNat y12.fst) ((List.getD s0 (Int.toNat y12.fst) (0, 0, 0, 0)).fst, (List.getD s0 (Int.toNat y12.fst) (0, 0, 0, 0)).snd.fst, (List.getD s0 (Int.toNat y12.fst) (0, 0, 0, 0)).snd.snd.fst, (List.getD y0.snd.snd.snd.snd.snd.snd.snd.snd.snd.snd.fst (Int.toNat y11.fst) (0, 0, 0, 0)).snd.snd.snd)
                      some (Sum.inl (y11.fst, Go.IntKind.wrap Go.IntKind.i64 ((List.getD y0.snd.snd.snd.snd.snd.snd.snd.snd.snd.snd.fst (Int.toNat y11.fst) (0, 0, 0, 0)).fst - 2), y0.fst, y0.snd.fst, y0.snd.snd.fst, y0.snd.snd.snd.fst, y0.snd.snd.snd.snd.fst, y0.snd.snd.snd.snd.snd.fst, y0.snd.snd.snd.snd.snd.snd.fst, y0.snd.snd.snd.snd.snd.snd.snd.fst, 0, 0, 0, 0, 0, 0, 0, 0, s1, y0.snd.snd.snd.snd.snd.snd.snd.snd.fst, y0.snd.snd.snd.snd.snd.snd.snd.snd.snd.fst, ()))
                     else
                      none
                    else
                     none
                   else
                    none
                  else
                   some (Sum.inl (y11.fst, Go.IntKind.wrap Go.IntKind.i64 ((List.getD y0.snd.snd.snd.snd.snd.snd.snd.snd.snd.snd.fst (Int.toNat y11.fst) (0, 0, 0, 0)).fst - 2), y0.fst, y0.snd.fst, y0.snd.snd.fst, y0.snd.snd.snd.fst, y0.snd.snd.snd.snd.fst, y0.snd.snd.snd.snd.snd.fst, y0.snd.snd.snd.snd.snd.snd.fst, y0.snd.snd.snd.snd.snd.snd.snd.fst, 0, 0, 0, 0, 0, 0, 0, 0, y0.snd.snd.snd.snd.snd.snd.snd.snd.snd.snd.fst, y0.snd.snd.snd.snd.snd.snd.snd.snd.fst, y0.snd.snd.snd.snd.snd.snd.snd.snd.snd.fst, ()))
                 ) fun y13 =>
                  Sum.elim (fun y14 =>
                   bif inRange y14.fst (List.length y14.snd.snd.snd.snd.snd.snd.snd.snd.snd.snd.snd.snd.snd.snd.snd.snd.snd.snd.fst) then
                    let s0 : List (Int × Int × Int × Int) := List.set y14.snd.snd.snd.snd.snd.snd.snd.snd.snd.snd.snd.snd.snd.snd.snd.snd.snd.snd.fst (Int.toNat y14.fst) ((List.getD y14.snd.snd.snd.snd.snd.snd.snd.snd.snd.snd.snd.snd.snd.snd.snd.snd.snd.snd.fst (Int.toNat y14.fst) (0, 0, 0, 0)).fst, 3, (List.getD y14.snd.snd.snd.snd.snd.snd.snd.snd.snd.snd.snd.snd.snd.snd.snd.snd.snd.snd.fst (Int.toNat y14.fst) (0, 0, 0, 0)).snd.snd.fst, (List.getD y14.snd.snd.snd.snd.snd.snd.snd.snd.snd.snd.snd.snd.snd.snd.snd.snd.snd.snd.fst (Int.toNat y14.fst) (0, 0, 0, 0)).snd.snd.snd)
                    bif inRange y14.fst (List.length s0) then
                     let s1 : List (Int × Int × Int × Int) := List.set s0 (Int.toNat y14.fst) ((List.getD s0 (Int.toNat y14.fst) (0, 0, 0, 0)).fst, (List.getD s0 (Int.toNat y14.fst) (0, 0, 0, 0)).snd.fst, (List.getD s0 (Int.toNat y14.fst) (0, 0, 0, 0)).snd.snd.fst, y14.snd.fst)
                     some (Sum.inl (y14.snd.snd.fst, y14.snd.snd.snd.fst, y14.snd.snd.snd.snd.fst, y14.snd.snd.snd.snd.snd.fst, y14.snd.snd.snd.snd.snd.snd.fst, y14.snd.snd.snd.snd.snd.snd.snd.fst, y14.snd.snd.snd.snd.snd.snd.snd.snd.fst, y14.snd.snd.snd.snd.snd.snd.snd.snd.snd.fst, y14.snd.snd.snd.snd.snd.snd.snd.snd.snd.snd.fst, y14.snd.snd.snd.snd.snd.snd.snd.snd.snd.snd.snd.fst, y14.snd.snd.snd.snd.snd.snd.snd.snd.snd.snd.snd.snd.fst, y14.snd.snd.snd.snd.snd.snd.snd.snd.snd.snd.snd.snd.snd.fst, y14.snd.snd.snd.snd.snd.snd.snd.snd.snd.snd.snd.snd.snd.snd.fst, y14.snd.snd.snd.snd.snd.snd.snd.snd.snd.snd.snd.snd.snd.snd.snd.fst, y14.snd.snd.snd.snd.snd.snd.snd.snd.snd.snd.snd.snd.snd.snd.snd.snd.fst, y14.snd.snd.snd.snd.snd.snd.snd.snd.snd.snd.snd.snd.snd.snd.snd.snd.snd.fst, y14.snd.snd.snd.snd.snd.snd.snd.snd.snd.snd.snd.snd.snd.snd.snd.snd.snd.snd.snd.fst, y14.snd.snd.snd.snd.snd.snd.snd.snd.snd.snd.snd.snd.snd.snd.snd.snd.snd.snd.snd.snd.fst, s1, ()))
                    else
                     none
                   else
                    none
                  ) (fun z15 =>
                   some (z15)
                  ) (y13)
               else
                none
              else
               some (Sum.inl (y0.fst, y0.snd.fst, y0.snd.snd.fst, y0.snd.snd.snd.fst, y0.snd.snd.snd.snd.fst, y0.snd.snd.snd.snd.snd.fst, y0.snd.snd.snd.snd.snd.snd.fst, y0.snd.snd.snd.snd.snd.snd.snd.fst, 0, 0, 0, 0, 0, 0, 0, 0, y0.snd.snd.snd.snd.snd.snd.snd.snd.fst, y0.snd.snd.snd.snd.snd.snd.snd.snd.snd.fst, y0.snd.snd.snd.snd.snd.snd.snd.snd.snd.snd.fst, ()))
            else
             bif a12 == 8 then
              Option.bind (f35 y0.snd.snd.snd.snd.snd.snd.snd.snd.snd.snd.fst a11 1 3) fun y16 =>
               bif Decidable.decide (y16.fst ≥ 0) then
                bif Decidable.decide (y2.fst < 0) then
                 bif inRange y16.fst (List.length y0.snd.snd.snd.snd.snd.snd.snd.snd.snd.snd.fst) then
                  let s0 : List (Int × Int × Int × Int) := List.set y0.snd.snd.snd.snd.snd.snd.snd.snd.snd.snd.fst (Int.toNat y16.fst) ((List.getD y0.snd.snd.snd.snd.snd.snd.snd.snd.snd.snd.fst (Int.toNat y16.fst) (0, 0, 0, 0)).fst, 1, (List.getD y0.snd.snd.snd.snd.snd.snd.snd.snd.snd.snd.fst (Int.toNat y16.fst) (0, 0, 0, 0)).snd.snd.fst, (List.getD y0.snd.snd.snd.snd.snd.snd.snd.snd.snd.snd.fst (Int.toNat y16.fst) (0, 0, 0, 0)).snd.snd.snd)
                  bif inRange y16.fst (List.length s0) then
                   let s1 : List (Int × Int × Int × Int) := List.set s0 (Int.toNat y16.fst) ((List.getD s0 (Int.toNat y16.fst) (0, 0, 0, 0)).fst, (List.getD s0 (Int.toNat y16.fst) (0, 0, 0, 0)).snd.fst, (List.getD y0.snd.snd.snd.snd.snd.snd.snd.snd.snd.fst (Int.toNat y1.fst) (0, 0, 0, 0, 0, 0, 0, 0, 0, 0, 0)).snd.snd.snd.fst, (List.getD s0 (Int.toNat y16.fst) (0, 0, 0, 0)).snd.snd.snd)
                   bif inRange y16.fst (List.length s1) then
                    let s2 : List (Int × Int × Int × Int) := List.set s1 (Int.toNat y16.fst) ((List.getD s1 (Int.toNat y16.fst) (0, 0, 0, 0)).fst, (List.getD s1 (Int.toNat y16.fst) (0, 0, 0, 0)).snd.fst, (List.getD s1 (Int.toNat y16.fst) (0, 0, 0, 0)).snd.snd.fst, (List.getD y0.snd.snd.snd.snd.snd.snd.snd.snd.snd.fst (Int.toNat y1.fst) (0, 0, 0, 0, 0, 0, 0, 0, 0, 0, 0)).snd.snd.snd.snd.fst)
                    some (Sum.inl (y0.fst, y0.snd.fst, y0.snd.snd.fst, y0.snd.snd.snd.fst, y0.snd.snd.snd.snd.fst, y0.snd.snd.snd.snd.snd.fst, y0.snd.snd.snd.snd.snd.snd.fst, y0.snd.snd.snd.snd.snd.snd.snd.fst, 0, 0, 0, 0, 0, 0, 0, 0, y0.snd.snd.snd.snd.snd.snd.snd.snd.fst, y0.snd.snd.snd.snd.snd.snd.snd.snd.snd.fst, s2, ()))
                   else
                    none
                  else
                   none
                 else
                  none
                else
                 some (Sum.inl (y0.fst, y0.snd.fst, y0.snd.snd.fst, y0.snd.snd.snd.fst, y0.snd.snd.snd.snd.fst, y0.snd.snd.snd.snd.snd.fst, y0.snd.snd.snd.snd.snd.snd.fst, y0.snd.snd.snd.snd.snd.snd.snd.fst, 0, 0, 0, 0, 0, 0, 0, 0, y0.snd.snd.snd.snd.snd.snd.snd.snd.fst, y0.snd.snd.snd.snd.snd.snd.snd.snd.snd.fst, y0.snd.snd.snd.snd.snd.snd.snd.snd.snd.snd.fst, ()))
               else
                some (Sum.inl (y0.fst, y0.snd.fst, y0.snd.snd.fst, y0.snd.snd.snd.fst, y0.snd.snd.snd.snd.fst, y0.snd.snd.snd.snd.snd.fst, y0.snd.snd.snd.snd.snd.snd.fst, y0.snd.snd.snd.snd.snd.snd.snd.fst, 0, 0, 0, 0, 0, 0, 0, 0, y0.snd.snd.snd.snd.snd.snd.snd.snd.fst, y0.snd.snd.snd.snd.snd.snd.snd.snd.snd.fst, y0.snd.snd.snd.snd.snd.snd.snd.snd.snd.snd.fst, ()))
             else
              bif a12 == 10 then
               Option.bind (α := Int × Int × Int × Int × Int × Int × Int × Int × Int × Int × Int × Int × Int × Int × Int × Int × Int × Int × Int × Int × Int × Int × Int × Int × Int × Int × Int × Int × Int × Int × List (Int × Int × Int × Int) × List Int × List (Int × Int × Int × Int × Int × Int × Int × Int × Int × Int × Int) × Unit ⊕ Int × Int × Int × Int × Int × Int × Int × Int × Int × Int × Int × Int × Int × Int × Int × Int × List Int × List (Int × Int × Int × Int × Int × Int × Int × Int × Int × Int × Int) × List (Int × Int × Int × Int) × Unit ⊕ Int × Int × Int × Int × Int × Int × Int × Int × List Int × List (Int × Int × Int × Int × Int × Int × Int × Int × Int × Int × Int) × List (Int × Int × Int × Int) × Unit) (
                f16.L1 ((a11, y3.fst, -1, 0, y0.fst, y0.snd.fst, y0.snd.snd.fst, y0.snd.snd.snd.fst, y0.snd.snd.snd.snd.fst, y0.snd.snd.snd.snd.snd.fst, y0.snd.snd.snd.snd.snd.snd.fst, y0.snd.snd.snd.snd.snd.snd.snd.fst, 0, 0, 0, 0, 0, 0, 0, 0, (List.getD y0.snd.snd.snd.snd.snd.snd.snd.snd.snd.fst (Int.toNat y1.fst) (0, 0, 0, 0, 0, 0, 0, 0, 0, 0, 0)).fst, (List.getD y0.snd.snd.snd.snd.snd.snd.snd.snd.snd.fst (Int.toNat y1.fst) (0, 0, 0, 0, 0, 0, 0, 0, 0, 0, 0)).snd.fst, (List.getD y0.snd.snd.snd.snd.snd.snd.snd.snd.snd.fst (Int.toNat y1.fst) (0, 0, 0, 0, 0, 0, 0, 0, 0, 0, 0)).snd.snd.fst, (List.getD y0.snd.snd.snd.snd.snd.snd.snd.snd.snd.fst (Int.toNat y1.fst) (0, 0, 0, 0, 0, 0, 0, 0, 0, 0, 0)).snd.snd.snd.fst, (List.getD y0.snd.snd.snd.snd.snd.snd.snd.snd.snd.fst (Int.toNat y1.fst) (0, 0, 0, 0, 0, 0, 0, 0, 0, 0, 0)).snd.snd.snd.snd.fst, (List.getD y0.snd.snd.snd.snd.snd.snd.snd.snd.snd.fst (Int.toNat y1.fst) (0, 0, 0, 0, 0, 0, 0, 0, 0, 0, 0)).snd.snd.snd.snd.snd.fst, (List.getD y0.snd.snd.snd.snd.snd.snd.snd.snd.snd.fst (Int.toNat y1.fst) (0, 0, 0, 0, 0, 0, 0, 0, 0, 0, 0)).snd.snd.snd.snd.snd.snd.fst, (List.getD y0.snd.snd.snd.snd.snd.snd.snd.snd.snd.fst (Int.toNat y1.fst) (0, 0, 0, 0, 0, 0, 0, 0, 0, 0, 0)).snd.snd.snd.snd.snd.snd.snd.fst, (List.getD y0.snd.snd.snd.snd.snd.snd.snd.snd.snd.fst (Int.toNat y1.fst) (0, 0, 0, 0, 0, 0, 0, 0, 0, 0, 0)).snd.snd.snd.snd.snd.snd.snd.snd.fst, (List.getD y0.snd.snd.snd.snd.snd.snd.snd.snd.snd.fst (Int.toNat y1.fst) (0, 0, 0, 0, 0, 0, 0, 0, 0, 0, 0)).snd.snd.snd.snd.snd.snd.snd.snd.snd.fst, (List.getD y0.snd.snd.snd.snd.snd.snd.snd.snd.snd.fst (Int.toNat y1.fst) (0, 0, 0, 0, 0, 0, 0, 0, 0, 0, 0)).snd.snd.snd.snd.snd.snd.snd.snd.snd.snd, y0.snd.snd.snd.snd.snd.snd.snd.snd.snd.snd.fst, y0.snd.snd.snd.snd.snd.snd.snd.snd.fst, y0.snd.snd.snd.snd.snd.snd.snd.snd.snd.fst, ()))
               ) fun y17 =>
                Sum.elim (fun y18 =>
                 Option.bind (α := Int × Int × Int × Bool × Int × Int × Int × Int × Int × Int × Int × Int × Int × Int × Int × Int × Int × Int × Int × Int × List (Int × Int × Int × Int) × List Int × List (Int × Int × Int × Int × Int × Int × Int × Int × Int × Int × Int) × Unit ⊕ Int × Int × Int × Int × Int × Int × Int × Int × Int × Int × Int × Int × Int × Int × Int × Int × List Int × List (Int × Int × Int × Int × Int × Int × Int × Int × Int × Int × Int) × List (Int × Int × Int × Int) × Unit ⊕ Int × Int × Int × Int × Int × Int × Int × Int × List Int × List (Int × Int × Int × Int × Int × Int × Int × Int × Int × Int × Int) × List (Int × Int × Int × Int) × Unit) (
                  Option.bind (f36 y18.snd.snd.snd.snd.snd.snd.snd.snd.snd.snd.snd.snd.snd.snd.snd.snd.snd.snd.snd.snd.snd.snd.snd.snd.snd.snd.snd.snd.snd.snd.snd.fst y18.snd.snd.snd.snd.snd.snd.snd.snd.snd.snd.snd.snd.snd.snd.snd.snd.snd.snd.snd.snd.snd.snd.fst y18.snd.snd.snd.snd.snd.snd.snd.snd.snd.snd.snd.snd.snd.snd.snd.snd.snd.snd.snd.snd.snd.snd.snd.fst) fun y23 =>
                   bif y23.fst == 5 then
                    bif inRange y18.fst 4 then
                     bif Decidable.decide (List.getD [y18.snd.snd.snd.snd.snd.snd.snd.fst, y18.snd.snd.snd.snd.snd.snd.snd.snd.fst, y18.snd.snd.snd.snd.snd.snd.snd.snd.snd.fst, y18.snd.snd.snd.snd.snd.snd.snd.snd.snd.snd.fst] (Int.toNat y18.fst) 0 ≥ 5) then
                      bif Decidable.decide (y18.snd.fst ≥ 0) then
                       some (Sum.inl (y18.fst, y18.snd.fst, y18.snd.snd.fst, Decidable.decide (y18.snd.snd.fst ≥ 0), y18.snd.snd.snd.fst, y18.snd.snd.snd.snd.fst, y18.snd.snd.snd.snd.snd.fst, y18.snd.snd.snd.snd.snd.snd.fst, y18.snd.snd.snd.snd.snd.snd.snd.fst, y18.snd.snd.snd.snd.snd.snd.snd.snd.fst, y18.snd.snd.snd.snd.snd.snd.snd.snd.snd.fst, y18.snd.snd.snd.snd.snd.snd.snd.snd.snd.snd.fst, y18.snd.snd.snd.snd.snd.snd.snd.snd.snd.snd.snd.fst, y18.snd.snd.snd.snd.snd.snd.snd.snd.snd.snd.snd.snd.fst, y18.snd.snd.snd.snd.snd.snd.snd.snd.snd.snd.snd.snd.snd.fst, y18.snd.snd.snd.snd.snd.snd.snd.snd.snd.snd.snd.snd.snd.snd.fst, y18.snd.snd.snd.snd.snd.snd.snd.snd.snd.snd.snd.snd.snd.snd.snd.fst, y18.snd.snd.snd.snd.snd.snd.snd.snd.snd.snd.snd.snd.snd.snd.snd.snd.fst, y18.snd.snd.snd.snd.snd.snd.snd.snd.snd.snd.snd.snd.snd.snd.snd.snd.snd.fst, y18.snd.snd.snd.snd.snd.snd.snd.snd.snd.snd.snd.snd.snd.snd.snd.snd.snd.snd.fst, y18.snd.snd.snd.snd.snd.snd.snd.snd.snd.snd.snd.snd.snd.snd.snd.snd.snd.snd.snd.snd.snd.snd.snd.snd.snd.snd.snd.snd.snd.snd.fst, y18.snd.snd.snd.snd.snd.snd.snd.snd.snd.snd.snd.snd.snd.snd.snd.snd.snd.snd.snd.snd.snd.snd.snd.snd.snd.snd.snd.snd.snd.snd.snd.fst, y18.snd.snd.snd.snd.snd.snd.snd.snd.snd.snd.snd.snd.snd.snd.snd.snd.snd.snd.snd.snd.snd.snd.snd.snd.snd.snd.snd.snd.snd.snd.snd.snd.fst, ()))
                      else
                       some (Sum.inl (y18.fst, y18.snd.fst, y18.snd.snd.fst, Bool.false, y18.snd.snd.snd.fst, y18.snd.snd.snd.snd.fst, y18.snd.snd.snd.snd.snd.fst, y18.snd.snd.snd.snd.snd.snd.fst, y18.snd.snd.snd.snd.snd.snd.snd.fst, y18.snd.snd.snd.snd.snd.snd.snd.snd.fst, y18.snd.snd.snd.snd.snd.snd.snd.snd.snd.fst, y18.snd.snd.snd.snd.snd.snd.snd.snd.snd.snd.fst, y18.snd.snd.snd.snd.snd.snd.snd.snd.snd.snd.snd.fst, y18.snd.snd.snd.snd.snd.snd.snd.snd.snd.snd.snd.snd.fst, y18.snd.snd.snd.snd.snd.snd.snd.snd.snd.snd.snd.snd.snd.fst, y18.snd.snd.snd.snd.snd.snd.snd.snd.snd.snd.snd.snd.snd.snd.fst, y18.snd.snd.snd.snd.snd.snd.snd.snd.snd.snd.snd.snd.snd.snd.snd.fst, y18.snd.snd.snd.snd.snd.snd.snd.snd.snd.snd.snd.snd.snd.snd.snd.snd.fst, y18.snd.snd.snd.snd.snd.snd.snd.snd.snd.snd.snd.snd.snd.snd.snd.snd.snd.fst, y18.snd.snd.snd.snd.snd.snd.snd.snd.snd.snd.snd.snd.snd.snd.snd.snd.snd.snd.fst, y18.snd.snd.snd.snd.snd.snd.snd.snd.snd.snd.snd.snd.snd.snd.snd.snd.snd.snd.snd.snd.snd.snd.snd.snd.snd.snd.snd.snd.snd.snd.fst, y18.snd.snd.snd.snd.snd.snd.snd.snd.snd.snd.snd.snd.snd.snd.snd.snd.snd.snd.snd.snd.snd.snd.snd.snd.snd.snd.snd.snd.snd.snd.snd.fst, y18.snd.snd.snd.snd.snd.snd.snd.snd.snd.snd.snd.snd.snd.snd.snd.snd.snd.snd.snd.snd.snd.snd.snd.snd.snd.snd.snd.snd.snd.snd.snd.snd.fst, ()))
                     else
                      some (Sum.inl (y18.fst, y18.snd.fst, y18.snd.snd.fst, Bool.false, y18.snd.snd.snd.fst, y18.snd.snd.snd.snd.fst, y18.snd.snd.snd.snd.snd.fst, y18.snd.snd.snd.snd.snd.snd.fst, y18.snd.snd.snd.snd.snd.snd.snd.fst, y18.snd.snd.snd.snd.snd.snd.snd.snd.fst, y18.snd.snd.snd.snd.snd.snd.snd.snd.snd.fst, y18.snd.snd.snd.snd.snd.snd.snd.snd.snd.snd.fst, y18.snd.snd.snd.snd.snd.snd.snd.snd.snd.snd.snd.fst, y18.snd.snd.snd.snd.snd.snd.snd.snd.snd.snd.snd.snd.fst, y18.snd.snd.snd.snd.snd.snd.snd.snd.snd.snd.snd.snd.snd.fst, y18.snd.snd.snd.snd.snd.snd.snd.snd.snd.snd.snd.snd.snd.snd.fst, y18.snd.snd.snd.snd.snd.snd.snd.snd.snd.snd.snd.snd.snd.snd.snd.fst, y18.snd.snd.snd.snd.snd.snd.snd.snd.snd.snd.snd.snd.snd.snd.snd.snd.fst, y18.snd.snd.snd.snd.snd.snd.snd.snd.snd.snd.snd.snd.snd.snd.snd.snd.snd.fst, y18.snd.snd.snd.snd.snd.snd.snd.snd.snd.snd.snd.snd.snd.snd.snd.snd.snd.snd.fst, y18.snd.snd.snd.snd.snd.snd.snd.snd.snd.snd.snd.snd.snd.snd.snd.snd.snd.snd.snd.snd.snd.snd.snd.snd.snd.snd.snd.snd.snd.snd.fst, y18.snd.snd.snd.snd.snd.snd.snd.snd.snd.snd.snd.snd.snd.snd.snd.snd.snd.snd.snd.snd.snd.snd.snd.snd.snd.snd.snd.snd.snd.snd.snd.fst, y18.snd.snd.snd.snd.snd.snd.snd.snd.snd.snd.snd.snd.snd.snd.snd.snd.snd.snd.snd.snd.snd.snd.snd.snd.snd.snd.snd.snd.snd.snd.snd.snd.fst, ()))
                    else
                     none
                   else
                    some (Sum.inl (y18.fst, y18.snd.fst, y18.snd.snd.fst, Bool.false, y18.snd.snd.snd.fst, y18.snd.snd.snd.snd.fst, y18.snd.snd.snd.snd.snd.fst, y18.snd.snd.snd.snd.snd.snd.fst, y18.snd.snd.snd.snd.snd.snd.snd.fst, y18.snd.snd.snd.snd.snd.snd.snd.snd.fst, y18.snd.snd.snd.snd.snd.snd.snd.snd.snd.fst, y18.snd.snd.snd.snd.snd.snd.snd.snd.snd.snd.fst, y18.snd.snd.snd.snd.snd.snd.snd.snd.snd.snd.snd.fst, y18.snd.snd.snd.snd.snd.snd.snd.snd.snd.snd.snd.snd.fst, y18.snd.snd.snd.snd.snd.snd.snd.snd.snd.snd.snd.snd.snd.fst, y18.snd.snd.snd.snd.snd.snd.snd.snd.snd.snd.snd.snd.snd.snd.fst, y18.snd.snd.snd.snd.snd.snd.snd.snd.snd.snd.snd.snd.snd.snd.snd.fst, y18.snd.snd.snd.snd.snd.snd.snd.snd.snd.snd.snd.snd.snd.snd.snd.snd.fst, y18.snd.snd.snd.snd.snd.snd.snd.snd.snd.snd.snd.snd.snd.snd.snd.snd.snd.fst, y18.snd.snd.snd.snd.snd.snd.snd.snd.snd.snd.snd.snd.snd.snd.snd.snd.snd.snd.fst, y18.snd.snd.snd.snd.snd.snd.snd.snd.snd.snd.snd.snd.snd.snd.snd.snd.snd.snd.snd.snd.snd.snd.snd.snd.snd.snd.snd.snd.snd.snd.fst, y18.snd.snd.snd.snd.snd.snd.snd.snd.snd.snd.snd.snd.snd.snd.snd.snd.snd.snd.snd.snd.snd.snd.snd.snd.snd.snd.snd.snd.snd.snd.snd.fst, y18.snd.snd.snd.snd.snd.snd.snd.snd.snd.snd.snd.snd.snd.snd.snd.snd.snd.snd.snd.snd.snd.snd.snd.snd.snd.snd.snd.snd.snd.snd.snd.snd.fst, ()))
                 ) fun y20 =>
                  Sum.elim (fun y21 =>
                   bif y21.snd.snd.snd.fst then
                    bif inRange y21.snd.snd.fst (List.length y21.snd.snd.snd.snd.snd.snd.snd.snd.snd.snd.snd.snd.snd.snd.snd.snd.snd.snd.snd.snd.fst) then
                     let s0 : List (Int × Int × Int × Int) := List.set y21.snd.snd.snd.snd.snd.snd.snd.snd.snd.snd.snd.snd.snd.snd.snd.snd.snd.snd.snd.snd.fst (Int.toNat y21.snd.snd.fst) ((List.getD y21.snd.snd.snd.snd.snd.snd.snd.snd.snd.snd.snd.snd.snd.snd.snd.snd.snd.snd.snd.snd.fst (Int.toNat y21.snd.snd.fst) (0, 0, 0, 0)).fst, 2, (List.getD y21.snd.snd.snd.snd.snd.snd.snd.snd.snd.snd.snd.snd.snd.snd.snd.snd.snd.snd.snd.snd.fst (Int.toNat y21.snd.snd.fst) (0, 0, 0, 0)).snd.snd.fst, (List.getD y21.snd.snd.snd.snd.snd.snd.snd.snd.snd.snd.snd.snd.snd.snd.snd.snd.snd.snd.snd.snd.fst (Int.toNat y21.snd.snd.fst) (0, 0, 0, 0)).snd.snd.snd)
                     bif inRange y21.snd.snd.fst (List.length s0) then
                      let s1 : List (Int × Int × Int × Int) := List.set s0 (Int.toNat y21.snd.snd.fst) ((List.getD s0 (Int.toNat y21.snd.snd.fst) (0, 0, 0, 0)).fst, (List.getD s0 (Int.toNat y21.snd.snd.fst) (0, 0, 0, 0)).snd.fst, y21.fst, (List.getD s0 (Int.toNat y21.snd.snd.fst) (0, 0, 0, 0)).snd.snd.snd)
                      bif inRange y21.snd.snd.fst (List.length s1) then
                       bif inRange y21.fst 4 then
                        bif inRange y21.fst 4 then
                         let s2 : List (Int × Int × Int × Int) := List.set s1 (Int.toNat y21.snd.snd.fst) ((List.getD s1 (Int.toNat y21.snd.snd.fst) (0, 0, 0, 0)).fst, (List.getD s1 (Int.toNat y21.snd.snd.fst) (0, 0, 0, 0)).snd.fst, (List.getD s1 (Int.toNat y21.snd.snd.fst) (0, 0, 0, 0)).snd.snd.fst, y21.snd.fst)
                         some (Sum.inl (y21.snd.snd.snd.snd.fst, y21.snd.snd.snd.snd.snd.fst, y21.snd.snd.snd.snd.snd.snd.fst, y21.snd.snd.snd.snd.snd.snd.snd.fst, if Int.toNat y21.fst = 0 / 1 then Go.IntKind.wrap Go.IntKind.i64 (List.getD [y21.snd.snd.snd.snd.snd.snd.snd.snd.fst, y21.snd.snd.snd.snd.snd.snd.snd.snd.snd.fst, y21.snd.snd.snd.snd.snd.snd.snd.snd.snd.snd.fst, y21.snd.snd.snd.snd.snd.snd.snd.snd.snd.snd.snd.fst] (Int.toNat y21.fst) 0 - 5) else y21.snd.snd.snd.snd.snd.snd.snd.snd.fst, if Int.toNat y21.fst = (0 + 1) / 1 then Go.IntKind.wrap Go.IntKind.i64 (List.getD [y21.snd.snd.snd.snd.snd.snd.snd.snd.fst, y21.snd.snd.snd.snd.snd.snd.snd.snd.snd.fst, y21.snd.snd.snd.snd.snd.snd.snd.snd.snd.snd.fst, y21.snd.snd.snd.snd.snd.snd.snd.snd.snd.snd.snd.fst] (Int.toNat y21.fst) 0 - 5) else y21.snd.snd.snd.snd.snd.snd.snd.snd.snd.fst, if Int.toNat y21.fst = (0 + 1 + 1) / 1 then Go.IntKind.wrap Go.IntKind.i64 (List.getD [y21.snd.snd.snd.snd.snd.snd.snd.snd.fst, y21.snd.snd.snd.snd.snd.snd.snd.snd.snd.fst, y21.snd.snd.snd.snd.snd.snd.snd.snd.snd.snd.fst, y21.snd.snd.snd.snd.snd.snd.snd.snd.snd.snd.snd.fst] (Int.toNat y21.fst) 0 - 5) else y21.snd.snd.snd.snd.snd.snd.snd.snd.snd.snd.fst, if Int.toNat y21.fst = (0 + 1 + 1 + 1) / 1 then Go.IntKind.wrap Go.IntKind.i64 (List.getD [y21.snd.snd.snd.snd.snd.snd.snd.snd.fst, y21.snd.snd.snd.snd.snd.snd.snd.snd.snd.fst, y21.snd.snd.snd.snd.snd.snd.snd.snd.snd.snd.fst, y21.snd.snd.snd.snd.snd.snd.snd.snd.snd.snd.snd.fst] (Int.toNat y21.fst) 0 - 5) else y21.snd.snd.snd.snd.snd.snd.snd.snd.snd.snd.snd.fst, y21.snd.snd.snd.snd.snd.snd.snd.snd.snd.snd.snd.snd.fst, y21.snd.snd.snd.snd.snd.snd.snd.snd.snd.snd.snd.snd.snd.fst, y21.snd.snd.snd.snd.snd.snd.snd.snd.snd.snd.snd.snd.snd.snd.fst, y21.snd.snd.snd.snd.snd.snd.snd.snd.snd.snd.snd.snd.snd.snd.snd.fst, y21.snd.snd.snd.snd.snd.snd.snd.snd.snd.snd.snd.snd.snd.snd.snd.snd.fst, y21.snd.snd.snd.snd.snd.snd.snd.snd.snd.snd.snd.snd.snd.snd.snd.snd.snd.fst, y21.snd.snd.snd.snd.snd.snd.snd.snd.snd.snd.snd.snd.snd.snd.snd.snd.snd.snd.fst, y21.snd.snd.snd.snd.snd.snd.snd.snd.snd.snd.snd.snd.snd.snd.snd.snd.snd.snd.snd.fst, y21.snd.snd.snd.snd.snd.snd.snd.snd.snd.snd.snd.snd.snd.snd.snd.snd.snd.snd.snd.snd.snd.fst, y21.snd.snd.snd.snd.snd.snd.snd.snd.snd.snd.snd.snd.snd.snd.snd.snd.snd.snd.snd.snd.snd.snd.fst, s2, ()))
                        else
                         none
                       else
                        none
                      else
                       none
                     else
                      none
                    else
                     none
                   else
                    some (Sum.inl (y21.snd.snd.snd.snd.fst, y21.snd.snd.snd.snd.snd.fst, y21.snd.snd.snd.snd.snd.snd.fst, y21.snd.snd.snd.snd.snd.snd.snd.fst, y21.snd.snd.snd.snd.snd.snd.snd.snd.fst, y21.snd.snd.snd.snd.snd.snd.snd.snd.snd.fst, y21.snd.snd.snd.snd.snd.snd.snd.snd.snd.snd.fst, y21.snd.snd.snd.snd.snd.snd.snd.snd.snd.snd.snd.fst, y21.snd.snd.snd.snd.snd.snd.snd.snd.snd.snd.snd.snd.fst, y21.snd.snd.snd.snd.snd.snd.snd.snd.snd.snd.snd.snd.snd.fst, y21.snd.snd.snd.snd.snd.snd.snd.snd.snd.snd.snd.snd.snd.snd.fst, y21.snd.snd.snd.snd.snd.snd.snd.snd.snd.snd.snd.snd.snd.snd.snd.fst, y21.snd.snd.snd.snd.snd.snd.snd.snd.snd.snd.snd.snd.snd.snd.snd.snd.fst, y21.snd.snd.snd.snd.snd.snd.snd.snd.snd.snd.snd.snd.snd.snd.snd.snd.snd.fst, y21.snd.snd.snd.snd.snd.snd.snd.snd.snd.snd.snd.snd.snd.snd.snd.snd.snd.snd.fst, y21.snd.snd.snd.snd.snd.snd.snd.snd.snd.snd.snd.snd.snd.snd.snd.snd.snd.snd.snd.fst, y21.snd.snd.snd.snd.snd.snd.snd.snd.snd.snd.snd.snd.snd.snd.snd.snd.snd.snd.snd.snd.snd.fst, y21.snd.snd.snd.snd.snd.snd.snd.snd.snd.snd.snd.snd.snd.snd.snd.snd.snd.snd.snd.snd.snd.snd.fst, y21.snd.snd.snd.snd.snd.snd.snd.snd.snd.snd.snd.snd.snd.snd.snd.snd.snd.snd.snd.snd.fst, ()))
                  ) (fun z22 =>
                   some (z22)
                  ) (y20)
                ) (fun z19 =>
                 some (z19)
                ) (y17)
              else
               some (Sum.inl (y0.fst, y0.snd.fst, y0.snd.snd.fst, y0.snd.snd.snd.fst, y0.snd.snd.snd.snd.fst, y0.snd.snd.snd.snd.snd.fst, y0.snd.snd.snd.snd.snd.snd.fst, y0.snd.snd.snd.snd.snd.snd.snd.fst, 0, 0, 0, 0, 0, 0, 0, 0, y0.snd.snd.snd.snd.snd.snd.snd.snd.fst, y0.snd.snd.snd.snd.snd.snd.snd.snd.snd.fst, y0.snd.snd.snd.snd.snd.snd.snd.snd.snd.snd.fst, ()))
         ) fun y4 =>
          Sum.elim (fun y5 =>
           some ((y5.fst, y5.snd.fst, y5.snd.snd.fst, y5.snd.snd.snd.fst, y5.snd.snd.snd.snd.fst, y5.snd.snd.snd.snd.snd.fst, y5.snd.snd.snd.snd.snd.snd.fst, y5.snd.snd.snd.snd.snd.snd.snd.fst, y5.snd.snd.snd.snd.snd.snd.snd.snd.snd.snd.snd.snd.snd.snd.snd.snd.fst, y5.snd.snd.snd.snd.snd.snd.snd.snd.snd.snd.snd.snd.snd.snd.snd.snd.snd.fst, y5.snd.snd.snd.snd.snd.snd.snd.snd.snd.snd.snd.snd.snd.snd.snd.snd.snd.snd.fst, ()))
          ) (fun z6 =>
           some (z6)
          ) (y4)
      else
       none
def f16.ins : Shape := ⟨[(0, .agg [.int .i64, .int .i64, .int .i64, .int .i64, .row (.int .u8), .row (.prod (.int .i64) (.prod (.int .i64) (.prod (.int .i64) (.prod (.int .i64) (.prod (.int .i64) (.prod (.int .i64) (.prod (.int .i64) (.prod (.int .i64) (.prod (.int .i64) (.prod (.int .i64) (.int .i64))))))))))), .row (.prod (.int .i64) (.prod (.int .i64) (.prod (.int .i64) (.int .i64)))), .int .i64, .int .i64, .int .i64, .int .i64]), (1, .c (.int .i64)), (2, .c (.int .i64))], []⟩
def f16.outs : List Shape := [⟨[(0, .agg [.int .i64, .int .i64, .int .i64, .int .i64, .own 0, .own 1, .own 2, .int .i64, .int .i64, .int .i64, .int .i64])], [(0, .arr (.int .u8)), (1, .arr (.prod (.int .i64) (.prod (.int .i64) (.prod (.int .i64) (.prod (.int .i64) (.prod (.int .i64) (.prod (.int .i64) (.prod (.int .i64) (.prod (.int .i64) (.prod (.int .i64) (.prod (.int .i64) (.int .i64)))))))))))), (2, .arr (.prod (.int .i64) (.prod (.int .i64) (.prod (.int .i64) (.int .i64)))))]⟩]
def f16.S : FnSpec := ⟨f16.ins, f16.outs, [], fun x => f16 x.1 x.2.1 x.2.2.1 x.2.2.2.1 x.2.2.2.2.1 x.2.2.2.2.2.1 x.2.2.2.2.2.2.1 x.2.2.2.2.2.2.2.1 x.2.2.2.2.2.2.2.2.1 x.2.2.2.2.2.2.2.2.2.1 x.2.2.2.2.2.2.2.2.2.2.1 x.2.2.2.2.2.2.2.2.2.2.2.1 x.2.2.2.2.2.2.2.2.2.2.2.2.1⟩
def f16.E (fuel : Nat) : Env := ⟨tisB, [(36, f36.S), (26, f26.S), (13, f13.S), (19, f19.S), (20, f20.S), (35, f35.S), (34, f34.S)], [], [(13, ⟨[(1, .c (.int .i64)), (3, .c (.ptr 0 0)), (6, .c (.ptr 1 0)), (9, .c (.own 2)), (10, .c (.int .i64)), (11, .c (.int .i64)), (64, .c (.bool))], [(0, .box [.int .i64, .int .i64, .int .i64, .int .i64, .own 3, .own 4, .own 2, .int .i64, .int .i64, .int .i64, .int .i64]), (1, .box [.int .i64, .int .i64, .int .i64, .int .i64, .nils, .nils, .nils, .int .i64, .int .i64, .int .i64, .int .i64]), (2, .arr (.prod (.int .i64) (.prod (.int .i64) (.prod (.int .i64) (.int .i64))))), (3, .arr (.int .u8)), (4, .arr (.prod (.int .i64) (.prod (.int .i64) (.prod (.int .i64) (.prod (.int .i64) (.prod (.int .i64) (.prod (.int .i64) (.prod (.int .i64) (.prod (.int .i64) (.prod (.int .i64) (.prod (.int .i64) (.int .i64))))))))))))]⟩), (30, ⟨[(3, .c (.ptr 0 0)), (6, .c (.ptr 1 0)), (9, .c (.own 2)), (13, .c (.int .i64)), (14, .c (.int .i64))], [(0, .box [.int .i64, .int .i64, .int .i64, .int .i64, .own 3, .own 4, .own 2, .int .i64, .int .i64, .int .i64, .int .i64]), (1, .box [.int .i64, .int .i64, .int .i64, .int .i64, .nils, .nils, .nils, .int .i64, .int .i64, .int .i64, .int .i64]), (2, .arr (.prod (.int .i64) (.prod (.int .i64) (.prod (.int .i64) (.int .i64))))), (3, .arr (.int .u8)), (4, .arr (.prod (.int .i64) (.prod (.int .i64) (.prod (.int .i64) (.prod (.int .i64) (.prod (.int .i64) (.prod (.int .i64) (.prod (.int .i64) (.prod (.int .i64) (.prod (.int .i64) (.prod (.int .i64) (.int .i64))))))))))))]⟩), (41, ⟨[(1, .c (.int .i64)), (3, .c (.ptr 0 0)), (6, .c (.ptr 1 0)), (8, .c (.ptr 2 0)), (9, .c (.own 3)), (11, .c (.int .i64)), (17, .c (.int .i64))], [(0, .box [.int .i64, .int .i64, .int .i64, .int .i64, .own 4, .own 5, .own 3, .int .i64, .int .i64, .int .i64, .int .i64]), (1, .box [.int .i64, .int .i64, .int .i64, .int .i64, .nils, .nils, .nils, .int .i64, .int .i64, .int .i64, .int .i64]), (2, .box [.int .i64, .int .i64, .int .i64, .int .i64, .int .i64, .int .i64, .int .i64, .int .i64, .int .i64, .int .i64, .int .i64]), (3, .arr (.prod (.int .i64) (.prod (.int .i64) (.prod (.int .i64) (.int .i64))))), (4, .arr (.int .u8)), (5, .arr (.prod (.int .i64) (.prod (.int .i64) (.prod (.int .i64) (.prod (.int .i64) (.prod (.int .i64) (.prod (.int .i64) (.prod (.int .i64) (.prod (.int .i64) (.prod (.int .i64) (.prod (.int .i64) (.int .i64))))))))))))]⟩), (42, ⟨[(1, .c (.int .i64)), (3, .c (.ptr 0 0)), (6, .c (.ptr 1 0)), (9, .c (.own 2)), (11, .c (.int .i64)), (17, .c (.int .i64)), (228, .c (.bool))], [(0, .box [.int .i64, .int .i64, .int .i64, .int .i64, .own 3, .own 4, .own 2, .int .i64, .int .i64, .int .i64, .int .i64]), (1, .box [.int .i64, .int .i64, .int .i64, .int .i64, .nils, .nils, .nils, .int .i64, .int .i64, .int .i64, .int .i64]), (2, .arr (.prod (.int .i64) (.prod (.int .i64) (.prod (.int .i64) (.int .i64))))), (3, .arr (.int .u8)), (4, .arr (.prod (.int .i64) (.prod (.int .i64) (.prod (.int .i64) (.prod (.int .i64) (.prod (.int .i64) (.prod (.int .i64) (.prod (.int .i64) (.prod (.int .i64) (.prod (.int .i64) (.prod (.int .i64) (.int .i64))))))))))))]⟩), (44, ⟨[(3, .c (.ptr 0 0)), (6, .c (.ptr 1 0))], [(0, .box [.int .i64, .int .i64, .int .i64, .int .i64, .own 2, .own 3, .own 4, .int .i64, .int .i64, .int .i64, .int .i64]), (1, .box [.int .i64, .int .i64, .int .i64, .int .i64, .nils, .nils, .nils, .int .i64, .int .i64, .int .i64, .int .i64]), (2, .arr (.int .u8)), (3, .arr (.prod (.int .i64) (.prod (.int .i64) (.prod (.int .i64) (.prod (.int .i64) (.prod (.int .i64) (.prod (.int .i64) (.prod (.int .i64) (.prod (.int .i64) (.prod (.int .i64) (.prod (.int .i64) (.int .i64)))))))))))), (4, .arr (.prod (.int .i64) (.prod (.int .i64) (.prod (.int .i64) (.int .i64)))))]⟩)], [(38, ⟨[(1, .c (.int .i64)), (3, .c (.ptr 0 0)), (6, .c (.ptr 1 0)), (8, .c (.ptr 2 0)), (9, .c (.own 3)), (11, .c (.int .i64)), (17, .c (.int .i64)), (18, .c (.int .i64))], [(0, .box [.int .i64, .int .i64, .int .i64, .int .i64, .own 4, .own 5, .own 3, .int .i64, .int .i64, .int .i64, .int .i64]), (1, .box [.int .i64, .int .i64, .int .i64, .int .i64, .nils, .nils, .nils, .int .i64, .int .i64, .int .i64, .int .i64]), (2, .box [.int .i64, .int .i64, .int .i64, .int .i64, .int .i64, .int .i64, .int .i64, .int .i64, .int .i64, .int .i64, .int .i64]), (3, .arr (.prod (.int .i64) (.prod (.int .i64) (.prod (.int .i64) (.int .i64))))), (4, .arr (.int .u8)), (5, .arr (.prod (.int .i64) (.prod (.int .i64) (.prod (.int .i64) (.prod (.int .i64) (.prod (.int .i64) (.prod (.int .i64) (.prod (.int .i64) (.prod (.int .i64) (.prod (.int .i64) (.prod (.int .i64) (.int .i64))))))))))))]⟩)], [], 0, [], fuel⟩
theorem f16.run : ∀ x, runFn (f16.E 100000000000000000000) Go.Proofs.Try.f16 ((Go.Proofs.Try.f16.body).getD .skip) f16.S x = f16.S.f x := by intro x; kernel_rfl
theorem f16.sound : Sound Go.Proofs.Try.prog 16 f16.S := sound_of_run (fun _ => f16.E 100000000000000000000) (by kernel_rfl) (by kernel_rfl) (by kernel_rfl) ordersB (fun _ => ⟨tisB_ok, EqsOk.nil _, (FnsOk.cons f36.sound (FnsOk.cons f26.sound (FnsOk.cons f13.sound (FnsOk.cons f19.sound (FnsOk.cons f20.sound (FnsOk.cons f35.sound (FnsOk.cons f34.sound FnsOk.nil)))))))⟩) (fun _ => rfl) (by kernel_rfl) (by kernel_rfl) (fun x r h => (f16.run x).trans h)
/-! f15: adit/aditlaw7.Same -/
def f15.L1 (x : Int × Int × Int × Int × Int × List Int × List (Int × Int × Int × Int × Int × Int × Int × Int × Int × Int × Int) × List (Int × Int × Int × Int) × Int × Int × Int × Int × Int × Int × Int × Int × List Int × List (Int × Int × Int × Int × Int × Int × Int × Int × Int × Int × Int) × List (Int × Int × Int × Int) × Int × Int × Int × Int × Unit) : Option (Bool × Unit) :=
 it (X := Int × Int × Int × Int × Int × List Int × List (Int × Int × Int × Int × Int × Int × Int × Int × Int × Int × Int) × List (Int × Int × Int × Int) × Int × Int × Int × Int × Int × Int × Int × Int × List Int × List (Int × Int × Int × Int × Int × Int × Int × Int × Int × Int × Int) × List (Int × Int × Int × Int) × Int × Int × Int × Int × Unit) (fun rec x =>
 bif Decidable.decide (x.fst < (↑(List.length x.snd.snd.snd.snd.snd.snd.snd.fst) : Int)) then
  bif inRange x.fst (List.length x.snd.snd.snd.snd.snd.snd.snd.fst) then
   bif inRange x.fst (List.length x.snd.snd.snd.snd.snd.snd.snd.snd.snd.snd.snd.snd.snd.snd.snd.snd.snd.snd.fst) then
    bif !((List.getD x.snd.snd.snd.snd.snd.snd.snd.fst (Int.toNat x.fst) (0, 0, 0, 0)).fst == (List.getD x.snd.snd.snd.snd.snd.snd.snd.snd.snd.snd.snd.snd.snd.snd.snd.snd.snd.snd.fst (Int.toNat x.fst) (0, 0, 0, 0)).fst && ((List.getD x.snd.snd.snd.snd.snd.snd.snd.fst (Int.toNat x.fst) (0, 0, 0, 0)).snd.fst == (List.getD x.snd.snd.snd.snd.snd.snd.snd.snd.snd.snd.snd.snd.snd.snd.snd.snd.snd.snd.fst (Int.toNat x.fst) (0, 0, 0, 0)).snd.fst && ((List.getD x.snd.snd.snd.snd.snd.snd.snd.fst (Int.toNat x.fst) (0, 0, 0, 0)).snd.snd.fst == (List.getD x.snd.snd.snd.snd.snd.snd.snd.snd.snd.snd.snd.snd.snd.snd.snd.snd.snd.snd.fst (Int.toNat x.fst) (0, 0, 0, 0)).snd.snd.fst && ((List.getD x.snd.snd.snd.snd.snd.snd.snd.fst (Int.toNat x.fst) (0, 0, 0, 0)).snd.snd.snd == (List.getD x.snd.snd.snd.snd.snd.snd.snd.snd.snd.snd.snd.snd.snd.snd.snd.snd.snd.snd.fst (Int.toNat x.fst) (0, 0, 0, 0)).snd.snd.snd && Bool.true)))) then
     some ((Bool.false, ()))
    else
     rec (Go.IntKind.wrap Go.IntKind.i64 (x.fst + 1), x.snd.fst, x.snd.snd.fst, x.snd.snd.snd.fst, x.snd.snd.snd.snd.fst, x.snd.snd.snd.snd.snd.fst, x.snd.snd.snd.snd.snd.snd.fst, x.snd.snd.snd.snd.snd.snd.snd.fst, x.snd.snd.snd.snd.snd.snd.snd.snd.fst, x.snd.snd.snd.snd.snd.snd.snd.snd.snd.fst, x.snd.snd.snd.snd.snd.snd.snd.snd.snd.snd.fst, x.snd.snd.snd.snd.snd.snd.snd.snd.snd.snd.snd.fst, x.snd.snd.snd.snd.snd.snd.snd.snd.snd.snd.snd.snd.fst, x.snd.snd.snd.snd.snd.snd.snd.snd.snd.snd.snd.snd.snd.fst, x.snd.snd.snd.snd.snd.snd.snd.snd.snd.snd.snd.snd.snd.snd.fst, x.snd.snd.snd.snd.snd.snd.snd.snd.snd.snd.snd.snd.snd.snd.snd.fst, x.snd.snd.snd.snd.snd.snd.snd.snd.snd.snd.snd.snd.snd.snd.snd.snd.fst, x.snd.snd.snd.snd.snd.snd.snd.snd.snd.snd.snd.snd.snd.snd.snd.snd.snd.fst, x.snd.snd.snd.snd.snd.snd.snd.snd.snd.snd.snd.snd.snd.snd.snd.snd.snd.snd.fst, x.snd.snd.snd.snd.snd.snd.snd.snd.snd.snd.snd.snd.snd.snd.snd.snd.snd.snd.snd.fst, x.snd.snd.snd.snd.snd.snd.snd.snd.snd.snd.snd.snd.snd.snd.snd.snd.snd.snd.snd.snd.fst, x.snd.snd.snd.snd.snd.snd.snd.snd.snd.snd.snd.snd.snd.snd.snd.snd.snd.snd.snd.snd.snd.fst, x.snd.snd.snd.snd.snd.snd.snd.snd.snd.snd.snd.snd.snd.snd.snd.snd.snd.snd.snd.snd.snd.snd.fst, ())
   else
    none
  else
   none
 else
  some ((Bool.true, ()))
 ) (100000000000000000000) (x)
def f15.L2 (x : Int × Int × Int × Int × Int × List Int × List (Int × Int × Int × Int × Int × Int × Int × Int × Int × Int × Int) × List (Int × Int × Int × Int) × Int × Int × Int × Int × Int × Int × Int × Int × List Int × List (Int × Int × Int × Int × Int × Int × Int × Int × Int × Int × Int) × List (Int × Int × Int × Int) × Int × Int × Int × Int × Unit) : Option (Bool × Unit) :=
 it (X := Int × Int × Int × Int × Int × List Int × List (Int × Int × Int × Int × Int × Int × Int × Int × Int × Int × Int) × List (Int × Int × Int × Int) × Int × Int × Int × Int × Int × Int × Int × Int × List Int × List (Int × Int × Int × Int × Int × Int × Int × Int × Int × Int × Int) × List (Int × Int × Int × Int) × Int × Int × Int × Int × Unit) (fun rec x =>
 bif Decidable.decide (x.fst < (↑(List.length x.snd.snd.snd.snd.snd.snd.fst) : Int)) then
  bif inRange x.fst (List.length x.snd.snd.snd.snd.snd.snd.fst) then
   bif inRange x.fst (List.length x.snd.snd.snd.snd.snd.snd.snd.snd.snd.snd.snd.snd.snd.snd.snd.snd.snd.fst) then
    bif !((List.getD x.snd.snd.snd.snd.snd.snd.fst (Int.toNat x.fst) (0, 0, 0, 0, 0, 0, 0, 0, 0, 0, 0)).fst == (List.getD x.snd.snd.snd.snd.snd.snd.snd.snd.snd.snd.snd.snd.snd.snd.snd.snd.snd.fst (Int.toNat x.fst) (0, 0, 0, 0, 0, 0, 0, 0, 0, 0, 0)).fst && ((List.getD x.snd.snd.snd.snd.snd.snd.fst (Int.toNat x.fst) (0, 0, 0, 0, 0, 0, 0, 0, 0, 0, 0)).snd.fst == (List.getD x.snd.snd.snd.snd.snd.snd.snd.snd.snd.snd.snd.snd.snd.snd.snd.snd.snd.fst (Int.toNat x.fst) (0, 0, 0, 0, 0, 0, 0, 0, 0, 0, 0)).snd.fst && ((List.getD x.snd.snd.snd.snd.snd.snd.fst (Int.toNat x.fst) (0, 0, 0, 0, 0, 0, 0, 0, 0, 0, 0)).snd.snd.fst == (List.getD x.snd.snd.snd.snd.snd.snd.snd.snd.snd.snd.snd.snd.snd.snd.snd.snd.snd.fst (Int.toNat x.fst) (0, 0, 0, 0, 0, 0, 0, 0, 0, 0, 0)).snd.snd.fst && ((List.getD x.snd.snd.snd.snd.snd.snd.fst (Int.toNat x.fst) (0, 0, 0, 0, 0, 0, 0, 0, 0, 0, 0)).snd.snd.snd.fst == (List.getD x.snd.snd.snd.snd.snd.snd.snd.snd.snd.snd.snd.snd.snd.snd.snd.snd.snd.fst (Int.toNat x.fst) (0, 0, 0, 0, 0, 0, 0, 0, 0, 0, 0)).snd.snd.snd.fst && ((List.getD x.snd.snd.snd.snd.snd.snd.fst (Int.toNat x.fst) (0, 0, 0, 0, 0, 0, 0, 0, 0, 0, 0)).snd.snd.snd.snd.fst == (List.getD x.snd.snd.snd.snd.snd.snd.snd.snd.snd.snd.snd.snd.snd.snd.snd.snd.snd.fst (Int.toNat x.fst) (0, 0, 0, 0, 0, 0, 0, 0, 0, 0, 0)).snd.snd.snd.snd.fst && ((List.getD x.snd.snd.snd.snd.snd.snd.fst (Int.toNat x.fst) (0, 0, 0, 0, 0, 0, 0, 0, 0, 0, 0)).snd.snd.snd.snd.snd.fst == (List.getD x.snd.snd.snd.snd.snd.snd.snd.snd.snd.snd.snd.snd.snd.snd.snd.snd.snd.fst (Int.toNat x.fst) (0, 0, 0, 0, 0, 0, 0, 0, 0, 0, 0)).snd.snd.snd.snd.snd.fst && ((List.getD x.snd.snd.snd.snd.snd.snd.fst (Int.toNat x.fst) (0, 0, 0, 0, 0, 0, 0, 0, 0, 0, 0)).snd.snd.snd.snd.snd.snd.fst == (List.getD x.snd.snd.snd.snd.snd.snd.snd.snd.snd.snd.snd.snd.snd.snd.snd.snd.snd.fst (Int.toNat x.fst) (0, 0, 0, 0, 0, 0, 0, 0, 0, 0, 0)).snd.snd.snd.snd.snd.snd.fst && ((List.getD x.snd.snd.snd.snd.snd.snd.fst (Int.toNat x.fst) (0, 0, 0, 0, 0, 0, 0, 0, 0, 0, 0)).snd.snd.snd.snd.snd.snd.snd.fst == (List.getD x.snd.snd.snd.snd.snd.snd.snd.snd.snd.snd.snd.snd.snd.snd.snd.snd.snd.fst (Int.toNat x.fst) (0, 0, 0, 0, 0, 0, 0, 0, 0, 0, 0)).snd.snd.snd.snd.snd.snd.snd.fst && ((List.getD x.snd.snd.snd.snd.snd.snd.fst (Int.toNat x.fst) (0, 0, 0, 0, 0, 0, 0, 0, 0, 0, 0)).snd.snd.snd.snd.snd.snd.snd.snd.fst == (List.getD x.snd.snd.snd.snd.snd.snd.snd.snd.snd.snd.snd.snd.snd.snd.snd.snd.snd.fst (Int.toNat x.fst) (0, 0, 0, 0, 0, 0, 0, 0, 0, 0, 0)).snd.snd.snd.snd.snd.snd.snd.snd.fst && ((List.getD x.snd.snd.snd.snd.snd.snd.fst (Int.toNat x.fst) (0, 0, 0, 0, 0, 0, 0, 0, 0, 0, 0)).snd.snd.snd.snd.snd.snd.snd.snd.snd.fst == (List.getD x.snd.snd.snd.snd.snd.snd.snd.snd.snd.snd.snd.snd.snd.snd.snd.snd.snd.fst (Int.toNat x.fst) (0, 0, 0, 0, 0, 0, 0, 0, 0, 0, 0)).snd.snd.snd.snd.snd.snd.snd.snd.snd.fst && ((List.getD x.snd.snd.snd.snd.snd.snd.fst (Int.toNat x.fst) (0, 0, 0, 0, 0, 0, 0, 0, 0, 0, 0)).snd.snd.snd.snd.snd.snd.snd.snd.snd.snd == (List.getD x.snd.snd.snd.snd.snd.snd.snd.snd.snd.snd.snd.snd.snd.snd.snd.snd.snd.fst (Int.toNat x.fst) (0, 0, 0, 0, 0, 0, 0, 0, 0, 0, 0)).snd.snd.snd.snd.snd.snd.snd.snd.snd.snd && Bool.true))))))))))) then
     some ((Bool.false, ()))
    else
     rec (Go.IntKind.wrap Go.IntKind.i64 (x.fst + 1), x.snd.fst, x.snd.snd.fst, x.snd.snd.snd.fst, x.snd.snd.snd.snd.fst, x.snd.snd.snd.snd.snd.fst, x.snd.snd.snd.snd.snd.snd.fst, x.snd.snd.snd.snd.snd.snd.snd.fst, x.snd.snd.snd.snd.snd.snd.snd.snd.fst, x.snd.snd.snd.snd.snd.snd.snd.snd.snd.fst, x.snd.snd.snd.snd.snd.snd.snd.snd.snd.snd.fst, x.snd.snd.snd.snd.snd.snd.snd.snd.snd.snd.snd.fst, x.snd.snd.snd.snd.snd.snd.snd.snd.snd.snd.snd.snd.fst, x.snd.snd.snd.snd.snd.snd.snd.snd.snd.snd.snd.snd.snd.fst, x.snd.snd.snd.snd.snd.snd.snd.snd.snd.snd.snd.snd.snd.snd.fst, x.snd.snd.snd.snd.snd.snd.snd.snd.snd.snd.snd.snd.snd.snd.snd.fst, x.snd.snd.snd.snd.snd.snd.snd.snd.snd.snd.snd.snd.snd.snd.snd.snd.fst, x.snd.snd.snd.snd.snd.snd.snd.snd.snd.snd.snd.snd.snd.snd.snd.snd.snd.fst, x.snd.snd.snd.snd.snd.snd.snd.snd.snd.snd.snd.snd.snd.snd.snd.snd.snd.snd.fst, x.snd.snd.snd.snd.snd.snd.snd.snd.snd.snd.snd.snd.snd.snd.snd.snd.snd.snd.snd.fst, x.snd.snd.snd.snd.snd.snd.snd.snd.snd.snd.snd.snd.snd.snd.snd.snd.snd.snd.snd.snd.fst, x.snd.snd.snd.snd.snd.snd.snd.snd.snd.snd.snd.snd.snd.snd.snd.snd.snd.snd.snd.snd.snd.fst, x.snd.snd.snd.snd.snd.snd.snd.snd.snd.snd.snd.snd.snd.snd.snd.snd.snd.snd.snd.snd.snd.snd.fst, ())
   else
    none
  else
   none
 else
  f15.L1 ((0, x.snd.fst, x.snd.snd.fst, x.snd.snd.snd.fst, x.snd.snd.snd.snd.fst, x.snd.snd.snd.snd.snd.fst, x.snd.snd.snd.snd.snd.snd.fst, x.snd.snd.snd.snd.snd.snd.snd.fst, x.snd.snd.snd.snd.snd.snd.snd.snd.fst, x.snd.snd.snd.snd.snd.snd.snd.snd.snd.fst, x.snd.snd.snd.snd.snd.snd.snd.snd.snd.snd.fst, x.snd.snd.snd.snd.snd.snd.snd.snd.snd.snd.snd.fst, x.snd.snd.snd.snd.snd.snd.snd.snd.snd.snd.snd.snd.fst, x.snd.snd.snd.snd.snd.snd.snd.snd.snd.snd.snd.snd.snd.fst, x.snd.snd.snd.snd.snd.snd.snd.snd.snd.snd.snd.snd.snd.snd.fst, x.snd.snd.snd.snd.snd.snd.snd.snd.snd.snd.snd.snd.snd.snd.snd.fst, x.snd.snd.snd.snd.snd.snd.snd.snd.snd.snd.snd.snd.snd.snd.snd.snd.fst, x.snd.snd.snd.snd.snd.snd.snd.snd.snd.snd.snd.snd.snd.snd.snd.snd.snd.fst, x.snd.snd.snd.snd.snd.snd.snd.snd.snd.snd.snd.snd.snd.snd.snd.snd.snd.snd.fst, x.snd.snd.snd.snd.snd.snd.snd.snd.snd.snd.snd.snd.snd.snd.snd.snd.snd.snd.snd.fst, x.snd.snd.snd.snd.snd.snd.snd.snd.snd.snd.snd.snd.snd.snd.snd.snd.snd.snd.snd.snd.fst, x.snd.snd.snd.snd.snd.snd.snd.snd.snd.snd.snd.snd.snd.snd.snd.snd.snd.snd.snd.snd.snd.fst, x.snd.snd.snd.snd.snd.snd.snd.snd.snd.snd.snd.snd.snd.snd.snd.snd.snd.snd.snd.snd.snd.snd.fst, ()))
 ) (100000000000000000000) (x)
def f15 (a0 : Int) (a1 : Int) (a2 : Int) (a3 : Int) (a4 : List Int) (a5 : List (Int × Int × Int × Int × Int × Int × Int × Int × Int × Int × Int)) (a6 : List (Int × Int × Int × Int)) (a7 : Int) (a8 : Int) (a9 : Int) (a10 : Int) (a11 : Int) (a12 : Int) (a13 : Int) (a14 : Int) (a15 : List Int) (a16 : List (Int × Int × Int × Int × Int × Int × Int × Int × Int × Int × Int)) (a17 : List (Int × Int × Int × Int)) (a18 : Int) (a19 : Int) (a20 : Int) (a21 : Int) : Option (Bool × Unit) :=
 bif a0 != a11 then
  some ((Bool.false, ()))
 else
  bif a1 != a12 then
   some ((Bool.false, ()))
  else
   bif a2 != a13 then
    some ((Bool.false, ()))
   else
    bif a3 != a14 then
     some ((Bool.false, ()))
    else
     bif !(a7 == a18 && (a8 == a19 && (a9 == a20 && (a10 == a21 && Bool.true)))) then
      some ((Bool.false, ()))
     else
      bif !ByteArray.toList (bytesOf a4) == ByteArray.toList (bytesOf a15) then
       some ((Bool.false, ()))
      else
       bif (↑(List.length a5) : Int) != (↑(List.length a16) : Int) then
        some ((Bool.false, ()))
       else
        bif (↑(List.length a6) : Int) != (↑(List.length a17) : Int) then
         some ((Bool.false, ()))
        else
         f15.L2 ((0, a0, a1, a2, a3, a4, a5, a6, a7, a8, a9, a10, a11, a12, a13, a14, a15, a16, a17, a18, a19, a20, a21, ()))
def f15.ins : Shape := ⟨[(0, .agg [.int .i64, .int .i64, .int .i64, .int .i64, .row (.int .u8), .row (.prod (.int .i64) (.prod (.int .i64) (.prod (.int .i64) (.prod (.int .i64) (.prod (.int .i64) (.prod (.int .i64) (.prod (.int .i64) (.prod (.int .i64) (.prod (.int .i64) (.prod (.int .i64) (.int .i64))))))))))), .row (.prod (.int .i64) (.prod (.int .i64) (.prod (.int .i64) (.int .i64)))), .int .i64, .int .i64, .int .i64, .int .i64]), (1, .agg [.int .i64, .int .i64, .int .i64, .int .i64, .row (.int .u8), .row (.prod (.int .i64) (.prod (.int .i64) (.prod (.int .i64) (.prod (.int .i64) (.prod (.int .i64) (.prod (.int .i64) (.prod (.int .i64) (.prod (.int .i64) (.prod (.int .i64) (.prod (.int .i64) (.int .i64))))))))))), .row (.prod (.int .i64) (.prod (.int .i64) (.prod (.int .i64) (.int .i64)))), .int .i64, .int .i64, .int .i64, .int .i64])], []⟩
def f15.outs : List Shape := [⟨[(0, .c (.bool))], []⟩]
def f15.S : FnSpec := ⟨f15.ins, f15.outs, [], fun x => f15 x.1 x.2.1 x.2.2.1 x.2.2.2.1 x.2.2.2.2.1 x.2.2.2.2.2.1 x.2.2.2.2.2.2.1 x.2.2.2.2.2.2.2.1 x.2.2.2.2.2.2.2.2.1 x.2.2.2.2.2.2.2.2.2.1 x.2.2.2.2.2.2.2.2.2.2.1 x.2.2.2.2.2.2.2.2.2.2.2.1 x.2.2.2.2.2.2.2.2.2.2.2.2.1 x.2.2.2.2.2.2.2.2.2.2.2.2.2.1 x.2.2.2.2.2.2.2.2.2.2.2.2.2.2.1 x.2.2.2.2.2.2.2.2.2.2.2.2.2.2.2.1 x.2.2.2.2.2.2.2.2.2.2.2.2.2.2.2.2.1 x.2.2.2.2.2.2.2.2.2.2.2.2.2.2.2.2.2.1 x.2.2.2.2.2.2.2.2.2.2.2.2.2.2.2.2.2.2.1 x.2.2.2.2.2.2.2.2.2.2.2.2.2.2.2.2.2.2.2.1 x.2.2.2.2.2.2.2.2.2.2.2.2.2.2.2.2.2.2.2.2.1 x.2.2.2.2.2.2.2.2.2.2.2.2.2.2.2.2.2.2.2.2.2.1⟩
def f15.E (fuel : Nat) : Env := ⟨tisB, [], [(27, [.int .i64, .int .i64, .int .i64, .int .i64]), (38, [.int .i64, .int .i64, .int .i64, .int .i64]), (43, [.int .i64, .int .i64, .int .i64, .int .i64, .int .i64, .int .i64, .int .i64, .int .i64, .int .i64, .int .i64, .int .i64])], [], [(5, ⟨[(2, .c (.ptr 0 0)), (3, .c (.ptr 1 0)), (5, .c (.int .i64))], [(0, .box [.int .i64, .int .i64, .int .i64, .int .i64, .row (.int .u8), .row (.prod (.int .i64) (.prod (.int .i64) (.prod (.int .i64) (.prod (.int .i64) (.prod (.int .i64) (.prod (.int .i64) (.prod (.int .i64) (.prod (.int .i64) (.prod (.int .i64) (.prod (.int .i64) (.int .i64))))))))))), .row (.prod (.int .i64) (.prod (.int .i64) (.prod (.int .i64) (.int .i64)))), .int .i64, .int .i64, .int .i64, .int .i64]), (1, .box [.int .i64, .int .i64, .int .i64, .int .i64, .row (.int .u8), .row (.prod (.int .i64) (.prod (.int .i64) (.prod (.int .i64) (.prod (.int .i64) (.prod (.int .i64) (.prod (.int .i64) (.prod (.int .i64) (.prod (.int .i64) (.prod (.int .i64) (.prod (.int .i64) (.int .i64))))))))))), .row (.prod (.int .i64) (.prod (.int .i64) (.prod (.int .i64) (.int .i64)))), .int .i64, .int .i64, .int .i64, .int .i64])]⟩), (10, ⟨[(2, .c (.ptr 0 0)), (3, .c (.ptr 1 0)), (6, .c (.int .i64))], [(0, .box [.int .i64, .int .i64, .int .i64, .int .i64, .row (.int .u8), .row (.prod (.int .i64) (.prod (.int .i64) (.prod (.int .i64) (.prod (.int .i64) (.prod (.int .i64) (.prod (.int .i64) (.prod (.int .i64) (.prod (.int .i64) (.prod (.int .i64) (.prod (.int .i64) (.int .i64))))))))))), .row (.prod (.int .i64) (.prod (.int .i64) (.prod (.int .i64) (.int .i64)))), .int .i64, .int .i64, .int .i64, .int .i64]), (1, .box [.int .i64, .int .i64, .int .i64, .int .i64, .row (.int .u8), .row (.prod (.int .i64) (.prod (.int .i64) (.prod (.int .i64) (.prod (.int .i64) (.prod (.int .i64) (.prod (.int .i64) (.prod (.int .i64) (.prod (.int .i64) (.prod (.int .i64) (.prod (.int .i64) (.int .i64))))))))))), .row (.prod (.int .i64) (.prod (.int .i64) (.prod (.int .i64) (.int .i64)))), .int .i64, .int .i64, .int .i64, .int .i64])]⟩)], [], 0, [], fuel⟩
theorem f15.run : ∀ x, runFn (f15.E 100000000000000000000) Go.Proofs.Try.f15 ((Go.Proofs.Try.f15.body).getD .skip) f15.S x = f15.S.f x := by intro x; kernel_rfl
theorem f15.sound : Sound Go.Proofs.Try.prog 15 f15.S := sound_of_run (fun _ => f15.E 100000000000000000000) (by kernel_rfl) (by kernel_rfl) (by kernel_rfl) ordersB (fun _ => ⟨tisB_ok, (EqsOk.cons eqB27 (EqsOk.cons eqB38 (EqsOk.cons eqB43 (EqsOk.nil _)))), FnsOk.nil⟩) (fun _ => rfl) (by kernel_rfl) (by kernel_rfl) (fun x r h => (f15.run x).trans h)
/-! f3: adit/aditlaw7.GoodsDo -/
def f3.L1 (x : Int × List Int × Int × Int × Int × Int × Int × Int × Int × Int × Int × List Int × List (Int × Int × Int × Int × Int × Int × Int × Int × Int × Int × Int) × List (Int × Int × Int × Int) × Unit) : Option (Bool × Unit) :=
 it (X := Int × List Int × Int × Int × Int × Int × Int × Int × Int × Int × Int × List Int × List (Int × Int × Int × Int × Int × Int × Int × Int × Int × Int × Int) × List (Int × Int × Int × Int) × Unit) (fun rec x =>
 bif Decidable.decide (x.snd.snd.fst < (↑(List.length x.snd.fst) : Int)) then
  bif Decidable.decide (x.snd.snd.fst < 20) then
   Option.bind (α := Int × List Int × Int × Int × Int × Int × Int × Int × Int × Int × Int × Int × List Int × List (Int × Int × Int × Int × Int × Int × Int × Int × Int × Int × Int) × List (Int × Int × Int × Int) × Unit ⊕ Bool × Unit) (
    bif inRange x.snd.snd.fst (List.length x.snd.fst) then
     bif Int.tmod (List.getD x.snd.fst (Int.toNat x.snd.snd.fst) 0) 13 == 12 then
      bif inRange x.snd.snd.fst (List.length x.snd.fst) then
       some (Sum.inl (x.fst, x.snd.fst, x.snd.snd.fst, List.getD x.snd.fst (Int.toNat x.snd.snd.fst) 0, x.snd.snd.snd.fst, x.snd.snd.snd.snd.fst, x.snd.snd.snd.snd.snd.fst, x.snd.snd.snd.snd.snd.snd.fst, x.snd.snd.snd.snd.snd.snd.snd.fst, x.snd.snd.snd.snd.snd.snd.snd.snd.fst, x.snd.snd.snd.snd.snd.snd.snd.snd.snd.fst, x.snd.snd.snd.snd.snd.snd.snd.snd.snd.snd.fst, x.snd.snd.snd.snd.snd.snd.snd.snd.snd.snd.snd.fst, x.snd.snd.snd.snd.snd.snd.snd.snd.snd.snd.snd.snd.fst, x.snd.snd.snd.snd.snd.snd.snd.snd.snd.snd.snd.snd.snd.fst, ()))
      else
       none
     else
      some (Sum.inl (x.fst, x.snd.fst, x.snd.snd.fst, x.fst, x.snd.snd.snd.fst, x.snd.snd.snd.snd.fst, x.snd.snd.snd.snd.snd.fst, x.snd.snd.snd.snd.snd.snd.fst, x.snd.snd.snd.snd.snd.snd.snd.fst, x.snd.snd.snd.snd.snd.snd.snd.snd.fst, x.snd.snd.snd.snd.snd.snd.snd.snd.snd.fst, x.snd.snd.snd.snd.snd.snd.snd.snd.snd.snd.fst, x.snd.snd.snd.snd.snd.snd.snd.snd.snd.snd.snd.fst, x.snd.snd.snd.snd.snd.snd.snd.snd.snd.snd.snd.snd.fst, x.snd.snd.snd.snd.snd.snd.snd.snd.snd.snd.snd.snd.snd.fst, ()))
    else
     none
   ) fun y0 =>
    Sum.elim (fun y1 =>
     Option.bind (f13 y1.snd.snd.snd.snd.fst y1.snd.snd.snd.snd.snd.fst y1.snd.snd.snd.snd.snd.snd.fst y1.snd.snd.snd.snd.snd.snd.snd.fst y1.snd.snd.snd.snd.snd.snd.snd.snd.snd.snd.snd.snd.fst y1.snd.snd.snd.snd.snd.snd.snd.snd.snd.snd.snd.snd.snd.fst y1.snd.snd.snd.snd.snd.snd.snd.snd.snd.snd.snd.snd.snd.snd.fst y1.snd.snd.snd.snd.snd.snd.snd.snd.fst y1.snd.snd.snd.snd.snd.snd.snd.snd.snd.fst y1.snd.snd.snd.snd.snd.snd.snd.snd.snd.snd.fst y1.snd.snd.snd.snd.snd.snd.snd.snd.snd.snd.snd.fst) fun y2 =>
      bif inRange y1.snd.snd.fst (List.length y1.snd.fst) then
       Option.bind (f14 y1.snd.snd.snd.snd.fst y1.snd.snd.snd.snd.snd.fst y1.snd.snd.snd.snd.snd.snd.fst y1.snd.snd.snd.snd.snd.snd.snd.fst y1.snd.snd.snd.snd.snd.snd.snd.snd.snd.snd.snd.snd.fst y1.snd.snd.snd.snd.snd.snd.snd.snd.snd.snd.snd.snd.snd.fst y1.snd.snd.snd.snd.snd.snd.snd.snd.snd.snd.snd.snd.snd.snd.fst y1.snd.snd.snd.snd.snd.snd.snd.snd.fst y1.snd.snd.snd.snd.snd.snd.snd.snd.snd.fst y1.snd.snd.snd.snd.snd.snd.snd.snd.snd.snd.fst y1.snd.snd.snd.snd.snd.snd.snd.snd.snd.snd.snd.fst y1.snd.snd.snd.fst (List.getD y1.snd.fst (Int.toNat y1.snd.snd.fst) 0)) fun y3 =>
        bif inRange y1.snd.snd.fst (List.length y1.snd.fst) then
         Option.bind (f16 y2.fst y2.snd.fst y2.snd.snd.fst y2.snd.snd.snd.fst y2.snd.snd.snd.snd.snd.snd.snd.snd.fst y2.snd.snd.snd.snd.snd.snd.snd.snd.snd.fst y2.snd.snd.snd.snd.snd.snd.snd.snd.snd.snd.fst y2.snd.snd.snd.snd.fst y2.snd.snd.snd.snd.snd.fst y2.snd.snd.snd.snd.snd.snd.fst y2.snd.snd.snd.snd.snd.snd.snd.fst y1.snd.snd.snd.fst (List.getD y1.snd.fst (Int.toNat y1.snd.snd.fst) 0)) fun y4 =>
          Option.bind (f15 y3.fst y3.snd.fst y3.snd.snd.fst y3.snd.snd.snd.fst y3.snd.snd.snd.snd.snd.snd.snd.snd.fst y3.snd.snd.snd.snd.snd.snd.snd.snd.snd.fst y3.snd.snd.snd.snd.snd.snd.snd.snd.snd.snd.fst y3.snd.snd.snd.snd.fst y3.snd.snd.snd.snd.snd.fst y3.snd.snd.snd.snd.snd.snd.fst y3.snd.snd.snd.snd.snd.snd.snd.fst y4.fst y4.snd.fst y4.snd.snd.fst y4.snd.snd.snd.fst y4.snd.snd.snd.snd.snd.snd.snd.snd.fst y4.snd.snd.snd.snd.snd.snd.snd.snd.snd.fst y4.snd.snd.snd.snd.snd.snd.snd.snd.snd.snd.fst y4.snd.snd.snd.snd.fst y4.snd.snd.snd.snd.snd.fst y4.snd.snd.snd.snd.snd.snd.fst y4.snd.snd.snd.snd.snd.snd.snd.fst) fun y5 =>
           bif !y5.fst then
            some ((Bool.false, ()))
           else
            Option.bind (f15 y1.snd.snd.snd.snd.fst y1.snd.snd.snd.snd.snd.fst y1.snd.snd.snd.snd.snd.snd.fst y1.snd.snd.snd.snd.snd.snd.snd.fst y1.snd.snd.snd.snd.snd.snd.snd.snd.snd.snd.snd.snd.fst y1.snd.snd.snd.snd.snd.snd.snd.snd.snd.snd.snd.snd.snd.fst y1.snd.snd.snd.snd.snd.snd.snd.snd.snd.snd.snd.snd.snd.snd.fst y1.snd.snd.snd.snd.snd.snd.snd.snd.fst y1.snd.snd.snd.snd.snd.snd.snd.snd.snd.fst y1.snd.snd.snd.snd.snd.snd.snd.snd.snd.snd.fst y1.snd.snd.snd.snd.snd.snd.snd.snd.snd.snd.snd.fst y2.fst y2.snd.fst y2.snd.snd.fst y2.snd.snd.snd.fst y2.snd.snd.snd.snd.snd.snd.snd.snd.fst y2.snd.snd.snd.snd.snd.snd.snd.snd.snd.fst y2.snd.snd.snd.snd.snd.snd.snd.snd.snd.snd.fst y2.snd.snd.snd.snd.fst y2.snd.snd.snd.snd.snd.fst y2.snd.snd.snd.snd.snd.snd.fst y2.snd.snd.snd.snd.snd.snd.snd.fst) fun y6 =>
             bif !y6.fst then
              some ((Bool.false, ()))
             else
              rec (y1.fst, y1.snd.fst, Go.IntKind.wrap Go.IntKind.i64 (y1.snd.snd.fst + 1), y3.fst, y3.snd.fst, y3.snd.snd.fst, y3.snd.snd.snd.fst, y3.snd.snd.snd.snd.fst, y3.snd.snd.snd.snd.snd.fst, y3.snd.snd.snd.snd.snd.snd.fst, y3.snd.snd.snd.snd.snd.snd.snd.fst, y3.snd.snd.snd.snd.snd.snd.snd.snd.fst, y3.snd.snd.snd.snd.snd.snd.snd.snd.snd.fst, y3.snd.snd.snd.snd.snd.snd.snd.snd.snd.snd.fst, ())
        else
         none
      else
       none
    ) (fun z7 =>
     some (z7)
    ) (y0)
  else
   some ((Bool.true, ()))
 else
  some ((Bool.true, ()))
 ) (100000000000000000000) (x)
def f3 (a0 : Int) (a1 : Int) (a2 : Int) (a3 : Int) (a4 : List (Int × Int × Int × Int)) (a5 : Int) (a6 : List Int) : Option (Bool × Unit) :=
 Option.bind (f10) fun y0 =>
  bif !y0.fst then
   some ((Bool.false, ()))
  else
   Option.bind (f11 a0 a1 a2 a3 a4 a5) fun y1 =>
    Option.bind (f12 a2 4) fun y2 =>
     f3.L1 ((y2.fst, a6, 0, y1.fst, y1.snd.fst, y1.snd.snd.fst, y1.snd.snd.snd.fst, y1.snd.snd.snd.snd.fst, y1.snd.snd.snd.snd.snd.fst, y1.snd.snd.snd.snd.snd.snd.fst, y1.snd.snd.snd.snd.snd.snd.snd.fst, y1.snd.snd.snd.snd.snd.snd.snd.snd.fst, y1.snd.snd.snd.snd.snd.snd.snd.snd.snd.fst, y1.snd.snd.snd.snd.snd.snd.snd.snd.snd.snd.fst, ()))
def f3.ins : Shape := ⟨[(0, .c (.int .i64)), (1, .c (.int .i64)), (2, .c (.int .i64)), (3, .c (.int .i64)), (4, .c (.row (.prod (.int .i64) (.prod (.int .i64) (.prod (.int .i64) (.int .i64)))))), (5, .c (.int .i64)), (6, .c (.row (.int .i64)))], []⟩
def f3.outs : List Shape := [⟨[(0, .c (.bool))], []⟩]
def f3.S : FnSpec := ⟨f3.ins, f3.outs, [], fun x => f3 x.1 x.2.1 x.2.2.1 x.2.2.2.1 x.2.2.2.2.1 x.2.2.2.2.2.1 x.2.2.2.2.2.2.1⟩
def f3.E (fuel : Nat) : Env := ⟨tisB, [(12, f12.S), (11, f11.S), (14, f14.S), (10, f10.S), (13, f13.S), (16, f16.S), (15, f15.S)], [], [(12, ⟨[(2, .c (.int .i64)), (6, .c (.row (.int .i64))), (15, .c (.ptr 0 0)), (16, .c (.int .i64)), (17, .c (.int .i64))], [(0, .box [.int .i64, .int .i64, .int .i64, .int .i64, .own 1, .own 2, .own 3, .int .i64, .int .i64, .int .i64, .int .i64]), (1, .arr (.int .u8)), (2, .arr (.prod (.int .i64) (.prod (.int .i64) (.prod (.int .i64) (.prod (.int .i64) (.prod (.int .i64) (.prod (.int .i64) (.prod (.int .i64) (.prod (.int .i64) (.prod (.int .i64) (.prod (.int .i64) (.int .i64)))))))))))), (3, .arr (.prod (.int .i64) (.prod (.int .i64) (.prod (.int .i64) (.int .i64)))))]⟩)], [(7, ⟨[(2, .c (.int .i64)), (6, .c (.row (.int .i64))), (15, .c (.ptr 0 0)), (16, .c (.int .i64))], [(0, .box [.int .i64, .int .i64, .int .i64, .int .i64, .own 1, .own 2, .own 3, .int .i64, .int .i64, .int .i64, .int .i64]), (1, .arr (.int .u8)), (2, .arr (.prod (.int .i64) (.prod (.int .i64) (.prod (.int .i64) (.prod (.int .i64) (.prod (.int .i64) (.prod (.int .i64) (.prod (.int .i64) (.prod (.int .i64) (.prod (.int .i64) (.prod (.int .i64) (.int .i64)))))))))))), (3, .arr (.prod (.int .i64) (.prod (.int .i64) (.prod (.int .i64) (.int .i64)))))]⟩)], [], 0, [], fuel⟩
theorem f3.run : ∀ x, runFn (f3.E 100000000000000000000) Go.Proofs.Try.f3 ((Go.Proofs.Try.f3.body).getD .skip) f3.S x = f3.S.f x := by intro x; kernel_rfl
theorem f3.sound : Sound Go.Proofs.Try.prog 3 f3.S := sound_of_run (fun _ => f3.E 100000000000000000000) (by kernel_rfl) (by kernel_rfl) (by kernel_rfl) ordersB (fun _ => ⟨tisB_ok, EqsOk.nil _, (FnsOk.cons f12.sound (FnsOk.cons f11.sound (FnsOk.cons f14.sound (FnsOk.cons f10.sound (FnsOk.cons f13.sound (FnsOk.cons f16.sound (FnsOk.cons f15.sound FnsOk.nil)))))))⟩) (fun _ => rfl) (by kernel_rfl) (by kernel_rfl) (fun x r h => (f3.run x).trans h)
/-! f4: adit/aditlaw7.GoodsBuys -/
def f4.L1 (x : Int × Int × Int × Int × Int × Int × Int × Int × Int × Int × Int × Int × List Int × List (Int × Int × Int × Int × Int × Int × Int × Int × Int × Int × Int) × List (Int × Int × Int × Int) × Unit) : Option (Bool × Unit) :=
 it (X := Int × Int × Int × Int × Int × Int × Int × Int × Int × Int × Int × Int × List Int × List (Int × Int × Int × Int × Int × Int × Int × Int × Int × Int × Int) × List (Int × Int × Int × Int) × Unit) (fun rec x =>
 bif Decidable.decide (x.snd.snd.snd.fst < 3) then
  bif inRange x.snd.snd.snd.fst (List.length x.snd.snd.snd.snd.snd.snd.snd.snd.snd.snd.snd.snd.snd.snd.fst) then
   bif (List.getD x.snd.snd.snd.snd.snd.snd.snd.snd.snd.snd.snd.snd.snd.snd.fst (Int.toNat x.snd.snd.snd.fst) (0, 0, 0, 0)).snd.fst == 2 then
    bif inRange x.snd.snd.snd.fst (List.length x.snd.snd.snd.snd.snd.snd.snd.snd.snd.snd.snd.snd.snd.snd.fst) then
     bif (List.getD x.snd.snd.snd.snd.snd.snd.snd.snd.snd.snd.snd.snd.snd.snd.fst (Int.toNat x.snd.snd.snd.fst) (0, 0, 0, 0)).snd.snd.snd != Go.IntKind.wrap Go.IntKind.i64 (x.fst + x.snd.snd.fst) then
      some ((Bool.false, ()))
     else
      rec (x.fst, x.snd.fst, Go.IntKind.wrap Go.IntKind.i64 (x.snd.snd.fst + 1), Go.IntKind.wrap Go.IntKind.i64 (x.snd.snd.snd.fst + 1), x.snd.snd.snd.snd.fst, x.snd.snd.snd.snd.snd.fst, x.snd.snd.snd.snd.snd.snd.fst, x.snd.snd.snd.snd.snd.snd.snd.fst, x.snd.snd.snd.snd.snd.snd.snd.snd.fst, x.snd.snd.snd.snd.snd.snd.snd.snd.snd.fst, x.snd.snd.snd.snd.snd.snd.snd.snd.snd.snd.fst, x.snd.snd.snd.snd.snd.snd.snd.snd.snd.snd.snd.fst, x.snd.snd.snd.snd.snd.snd.snd.snd.snd.snd.snd.snd.fst, x.snd.snd.snd.snd.snd.snd.snd.snd.snd.snd.snd.snd.snd.fst, x.snd.snd.snd.snd.snd.snd.snd.snd.snd.snd.snd.snd.snd.snd.fst, ())
    else
     none
   else
    rec (x.fst, x.snd.fst, x.snd.snd.fst, Go.IntKind.wrap Go.IntKind.i64 (x.snd.snd.snd.fst + 1), x.snd.snd.snd.snd.fst, x.snd.snd.snd.snd.snd.fst, x.snd.snd.snd.snd.snd.snd.fst, x.snd.snd.snd.snd.snd.snd.snd.fst, x.snd.snd.snd.snd.snd.snd.snd.snd.fst, x.snd.snd.snd.snd.snd.snd.snd.snd.snd.fst, x.snd.snd.snd.snd.snd.snd.snd.snd.snd.snd.fst, x.snd.snd.snd.snd.snd.snd.snd.snd.snd.snd.snd.fst, x.snd.snd.snd.snd.snd.snd.snd.snd.snd.snd.snd.snd.fst, x.snd.snd.snd.snd.snd.snd.snd.snd.snd.snd.snd.snd.snd.fst, x.snd.snd.snd.snd.snd.snd.snd.snd.snd.snd.snd.snd.snd.snd.fst, ())
  else
   none
 else
  bif x.snd.snd.fst == minI (minI 3 (Go.IntKind.wrap Go.IntKind.i64 (4 - x.fst))) (Go.IntKind.wrap Go.IntKind.i64 (Int.tdiv x.snd.fst 5)) then
   bif x.snd.snd.snd.snd.snd.snd.snd.snd.fst == Go.IntKind.wrap Go.IntKind.i64 (x.snd.fst - Go.IntKind.wrap Go.IntKind.i64 (5 * x.snd.snd.fst)) then
    Option.bind (f18 x.snd.snd.snd.snd.fst x.snd.snd.snd.snd.snd.fst x.snd.snd.snd.snd.snd.snd.fst x.snd.snd.snd.snd.snd.snd.snd.fst x.snd.snd.snd.snd.snd.snd.snd.snd.snd.snd.snd.snd.fst x.snd.snd.snd.snd.snd.snd.snd.snd.snd.snd.snd.snd.snd.fst x.snd.snd.snd.snd.snd.snd.snd.snd.snd.snd.snd.snd.snd.snd.fst x.snd.snd.snd.snd.snd.snd.snd.snd.fst x.snd.snd.snd.snd.snd.snd.snd.snd.snd.fst x.snd.snd.snd.snd.snd.snd.snd.snd.snd.snd.fst x.snd.snd.snd.snd.snd.snd.snd.snd.snd.snd.snd.fst) fun y0 =>
     some ((y0.fst, ()))
   else
    some ((Bool.false, ()))
  else
   some ((Bool.false, ()))
 ) (100000000000000000000) (x)
def f4.L2 (x : Int × Int × Int × Int × Int × Int × Int × Int × Int × Int × Int × Int × List Int × List (Int × Int × Int × Int × Int × Int × Int × Int × Int × Int × Int) × List (Int × Int × Int × Int) × Unit) : Option (Bool × Unit) :=
 it (X := Int × Int × Int × Int × Int × Int × Int × Int × Int × Int × Int × Int × List Int × List (Int × Int × Int × Int × Int × Int × Int × Int × Int × Int × Int) × List (Int × Int × Int × Int) × Unit) (fun rec x =>
 bif Decidable.decide (x.snd.snd.snd.fst < 6) then
  Option.bind (f14 x.snd.snd.snd.snd.fst x.snd.snd.snd.snd.snd.fst x.snd.snd.snd.snd.snd.snd.fst x.snd.snd.snd.snd.snd.snd.snd.fst x.snd.snd.snd.snd.snd.snd.snd.snd.snd.snd.snd.snd.fst x.snd.snd.snd.snd.snd.snd.snd.snd.snd.snd.snd.snd.snd.fst x.snd.snd.snd.snd.snd.snd.snd.snd.snd.snd.snd.snd.snd.snd.fst x.snd.snd.snd.snd.snd.snd.snd.snd.fst x.snd.snd.snd.snd.snd.snd.snd.snd.snd.fst x.snd.snd.snd.snd.snd.snd.snd.snd.snd.snd.fst x.snd.snd.snd.snd.snd.snd.snd.snd.snd.snd.snd.fst 0 10) fun y0 =>
   rec (x.fst, x.snd.fst, x.snd.snd.fst, Go.IntKind.wrap Go.IntKind.i64 (x.snd.snd.snd.fst + 1), y0.fst, y0.snd.fst, y0.snd.snd.fst, y0.snd.snd.snd.fst, y0.snd.snd.snd.snd.fst, y0.snd.snd.snd.snd.snd.fst, y0.snd.snd.snd.snd.snd.snd.fst, y0.snd.snd.snd.snd.snd.snd.snd.fst, y0.snd.snd.snd.snd.snd.snd.snd.snd.fst, y0.snd.snd.snd.snd.snd.snd.snd.snd.snd.fst, y0.snd.snd.snd.snd.snd.snd.snd.snd.snd.snd.fst, ())
 else
  f4.L1 ((x.fst, x.snd.fst, x.snd.snd.fst, 0, x.snd.snd.snd.snd.fst, x.snd.snd.snd.snd.snd.fst, x.snd.snd.snd.snd.snd.snd.fst, x.snd.snd.snd.snd.snd.snd.snd.fst, x.snd.snd.snd.snd.snd.snd.snd.snd.fst, x.snd.snd.snd.snd.snd.snd.snd.snd.snd.fst, x.snd.snd.snd.snd.snd.snd.snd.snd.snd.snd.fst, x.snd.snd.snd.snd.snd.snd.snd.snd.snd.snd.snd.fst, x.snd.snd.snd.snd.snd.snd.snd.snd.snd.snd.snd.snd.fst, x.snd.snd.snd.snd.snd.snd.snd.snd.snd.snd.snd.snd.snd.fst, x.snd.snd.snd.snd.snd.snd.snd.snd.snd.snd.snd.snd.snd.snd.fst, ()))
 ) (100000000000000000000) (x)
def f4.L3 (x : Int × Int × Int × Int × Int × Int × Int × Int × Int × Int × List Int × List (Int × Int × Int × Int × Int × Int × Int × Int × Int × Int × Int) × List (Int × Int × Int × Int) × Unit) : Option (Bool × Unit) :=
 it (X := Int × Int × Int × Int × Int × Int × Int × Int × Int × Int × List Int × List (Int × Int × Int × Int × Int × Int × Int × Int × Int × Int × Int) × List (Int × Int × Int × Int) × Unit) (fun rec x =>
 bif Decidable.decide (x.snd.fst < x.fst) then
  bif inRange (Go.IntKind.wrap Go.IntKind.i64 (10 + x.snd.fst)) (List.length x.snd.snd.snd.snd.snd.snd.snd.snd.snd.snd.snd.snd.fst) then
   let s0 : List (Int × Int × Int × Int) := List.set x.snd.snd.snd.snd.snd.snd.snd.snd.snd.snd.snd.snd.fst (Int.toNat (Go.IntKind.wrap Go.IntKind.i64 (10 + x.snd.fst))) (2, 2, 0, x.snd.fst)
   rec (x.fst, Go.IntKind.wrap Go.IntKind.i64 (x.snd.fst + 1), x.snd.snd.fst, x.snd.snd.snd.fst, x.snd.snd.snd.snd.fst, x.snd.snd.snd.snd.snd.fst, x.snd.snd.snd.snd.snd.snd.fst, x.snd.snd.snd.snd.snd.snd.snd.fst, x.snd.snd.snd.snd.snd.snd.snd.snd.fst, x.snd.snd.snd.snd.snd.snd.snd.snd.snd.fst, x.snd.snd.snd.snd.snd.snd.snd.snd.snd.snd.fst, x.snd.snd.snd.snd.snd.snd.snd.snd.snd.snd.snd.fst, s0, ())
  else
   none
 else
  f4.L2 ((x.fst, x.snd.snd.snd.snd.snd.snd.fst, 0, 0, x.snd.snd.fst, x.snd.snd.snd.fst, x.snd.snd.snd.snd.fst, x.snd.snd.snd.snd.snd.fst, x.snd.snd.snd.snd.snd.snd.fst, x.snd.snd.snd.snd.snd.snd.snd.fst, x.snd.snd.snd.snd.snd.snd.snd.snd.fst, x.snd.snd.snd.snd.snd.snd.snd.snd.snd.fst, x.snd.snd.snd.snd.snd.snd.snd.snd.snd.snd.fst, x.snd.snd.snd.snd.snd.snd.snd.snd.snd.snd.snd.fst, x.snd.snd.snd.snd.snd.snd.snd.snd.snd.snd.snd.snd.fst, ()))
 ) (100000000000000000000) (x)
def f4.L4 (x : Int × Int × Int × Int × Int × Int × Int × Int × Int × Int × List Int × List (Int × Int × Int × Int × Int × Int × Int × Int × Int × Int × Int) × List (Int × Int × Int × Int) × Unit) : Option (Bool × Unit) :=
 it (X := Int × Int × Int × Int × Int × Int × Int × Int × Int × Int × List Int × List (Int × Int × Int × Int × Int × Int × Int × Int × Int × Int × Int) × List (Int × Int × Int × Int) × Unit) (fun rec x =>
 bif Decidable.decide (x.snd.fst < 3) then
  bif inRange x.snd.fst (List.length x.snd.snd.snd.snd.snd.snd.snd.snd.snd.snd.snd.snd.fst) then
   let s0 : List (Int × Int × Int × Int) := List.set x.snd.snd.snd.snd.snd.snd.snd.snd.snd.snd.snd.snd.fst (Int.toNat x.snd.fst) (1, 4, x.snd.fst, 0)
   rec (x.fst, Go.IntKind.wrap Go.IntKind.i64 (x.snd.fst + 1), x.snd.snd.fst, x.snd.snd.snd.fst, x.snd.snd.snd.snd.fst, x.snd.snd.snd.snd.snd.fst, x.snd.snd.snd.snd.snd.snd.fst, x.snd.snd.snd.snd.snd.snd.snd.fst, x.snd.snd.snd.snd.snd.snd.snd.snd.fst, x.snd.snd.snd.snd.snd.snd.snd.snd.snd.fst, x.snd.snd.snd.snd.snd.snd.snd.snd.snd.snd.fst, x.snd.snd.snd.snd.snd.snd.snd.snd.snd.snd.snd.fst, s0, ())
  else
   none
 else
  f4.L3 ((x.fst, 0, x.snd.snd.fst, x.snd.snd.snd.fst, x.snd.snd.snd.snd.fst, x.snd.snd.snd.snd.snd.fst, x.snd.snd.snd.snd.snd.snd.fst, x.snd.snd.snd.snd.snd.snd.snd.fst, x.snd.snd.snd.snd.snd.snd.snd.snd.fst, x.snd.snd.snd.snd.snd.snd.snd.snd.snd.fst, x.snd.snd.snd.snd.snd.snd.snd.snd.snd.snd.fst, x.snd.snd.snd.snd.snd.snd.snd.snd.snd.snd.snd.fst, x.snd.snd.snd.snd.snd.snd.snd.snd.snd.snd.snd.snd.fst, ()))
 ) (100000000000000000000) (x)
def f4 (a0 : Int) (a1 : Int) (a2 : Int) : Option (Bool × Unit) :=
 Option.bind (f10) fun y0 =>
  bif !y0.fst then
   some ((Bool.false, ()))
  else
   Option.bind (f11 a0 0 0 0 [] a1) fun y1 =>
    Option.bind (f17 y1.snd.snd.snd.snd.snd.snd.snd.snd.fst 5) fun y2 =>
     bif Decidable.decide (y2.fst < 0) then
      some ((Bool.true, ()))
     else
      Option.bind (f12 a2 5) fun y3 =>
       f4.L4 ((y3.fst, 0, y1.fst, y1.snd.fst, y1.snd.snd.fst, y1.snd.snd.snd.fst, y1.snd.snd.snd.snd.fst, y1.snd.snd.snd.snd.snd.fst, y1.snd.snd.snd.snd.snd.snd.fst, y1.snd.snd.snd.snd.snd.snd.snd.fst, y1.snd.snd.snd.snd.snd.snd.snd.snd.fst, y1.snd.snd.snd.snd.snd.snd.snd.snd.snd.fst, y1.snd.snd.snd.snd.snd.snd.snd.snd.snd.snd.fst, ()))
def f4.ins : Shape := ⟨[(0, .c (.int .i64)), (1, .c (.int .i64)), (2, .c (.int .i64))], []⟩
def f4.outs : List Shape := [⟨[(0, .c (.bool))], []⟩]
def f4.S : FnSpec := ⟨f4.ins, f4.outs, [], fun x => f4 x.1 x.2.1 x.2.2.1⟩
def f4.E (fuel : Nat) : Env := ⟨tisB, [(12, f12.S), (17, f17.S), (11, f11.S), (14, f14.S), (18, f18.S), (10, f10.S)], [], [], [(9, ⟨[(2, .c (.int .i64)), (7, .c (.ptr 0 0)), (8, .c (.int .i64))], [(0, .box [.int .i64, .int .i64, .int .i64, .int .i64, .own 1, .own 2, .own 3, .int .i64, .int .i64, .int .i64, .int .i64]), (1, .arr (.int .u8)), (2, .arr (.prod (.int .i64) (.prod (.int .i64) (.prod (.int .i64) (.prod (.int .i64) (.prod (.int .i64) (.prod (.int .i64) (.prod (.int .i64) (.prod (.int .i64) (.prod (.int .i64) (.prod (.int .i64) (.int .i64)))))))))))), (3, .arr (.prod (.int .i64) (.prod (.int .i64) (.prod (.int .i64) (.int .i64)))))]⟩), (13, ⟨[(2, .c (.int .i64)), (7, .c (.ptr 0 0)), (9, .c (.int .i64))], [(0, .box [.int .i64, .int .i64, .int .i64, .int .i64, .own 1, .own 2, .own 3, .int .i64, .int .i64, .int .i64, .int .i64]), (1, .arr (.int .u8)), (2, .arr (.prod (.int .i64) (.prod (.int .i64) (.prod (.int .i64) (.prod (.int .i64) (.prod (.int .i64) (.prod (.int .i64) (.prod (.int .i64) (.prod (.int .i64) (.prod (.int .i64) (.prod (.int .i64) (.int .i64)))))))))))), (3, .arr (.prod (.int .i64) (.prod (.int .i64) (.prod (.int .i64) (.int .i64)))))]⟩), (19, ⟨[(2, .c (.int .i64)), (7, .c (.ptr 0 0)), (10, .c (.int .i64)), (11, .c (.int .i64)), (12, .c (.int .i64))], [(0, .box [.int .i64, .int .i64, .int .i64, .int .i64, .own 1, .own 2, .own 3, .int .i64, .int .i64, .int .i64, .int .i64]), (1, .arr (.int .u8)), (2, .arr (.prod (.int .i64) (.prod (.int .i64) (.prod (.int .i64) (.prod (.int .i64) (.prod (.int .i64) (.prod (.int .i64) (.prod (.int .i64) (.prod (.int .i64) (.prod (.int .i64) (.prod (.int .i64) (.int .i64)))))))))))), (3, .arr (.prod (.int .i64) (.prod (.int .i64) (.prod (.int .i64) (.int .i64)))))]⟩), (23, ⟨[(2, .c (.int .i64)), (7, .c (.ptr 0 0)), (10, .c (.int .i64)), (11, .c (.int .i64)), (13, .c (.int .i64))], [(0, .box [.int .i64, .int .i64, .int .i64, .int .i64, .own 1, .own 2, .own 3, .int .i64, .int .i64, .int .i64, .int .i64]), (1, .arr (.int .u8)), (2, .arr (.prod (.int .i64) (.prod (.int .i64) (.prod (.int .i64) (.prod (.int .i64) (.prod (.int .i64) (.prod (.int .i64) (.prod (.int .i64) (.prod (.int .i64) (.prod (.int .i64) (.prod (.int .i64) (.int .i64)))))))))))), (3, .arr (.prod (.int .i64) (.prod (.int .i64) (.prod (.int .i64) (.int .i64)))))]⟩)], [], 0, [], fuel⟩
theorem f4.run : ∀ x, runFn (f4.E 100000000000000000000) Go.Proofs.Try.f4 ((Go.Proofs.Try.f4.body).getD .skip) f4.S x = f4.S.f x := by intro x; kernel_rfl
theorem f4.sound : Sound Go.Proofs.Try.prog 4 f4.S := sound_of_run (fun _ => f4.E 100000000000000000000) (by kernel_rfl) (by kernel_rfl) (by kernel_rfl) ordersB (fun _ => ⟨tisB_ok, EqsOk.nil _, (FnsOk.cons f12.sound (FnsOk.cons f17.sound (FnsOk.cons f11.sound (FnsOk.cons f14.sound (FnsOk.cons f18.sound (FnsOk.cons f10.sound FnsOk.nil))))))⟩) (fun _ => rfl) (by kernel_rfl) (by kernel_rfl) (fun x r h => (f4.run x).trans h)
/-! f5: adit/aditlaw7.GoodsBack -/
def f5.L1 (x : Int × Int × Int × Int × Int × Int × Int × Int × Int × Int × List Int × List (Int × Int × Int × Int × Int × Int × Int × Int × Int × Int × Int) × List (Int × Int × Int × Int) × Unit) : Option (Bool × Unit) :=
 it (X := Int × Int × Int × Int × Int × Int × Int × Int × Int × Int × List Int × List (Int × Int × Int × Int × Int × Int × Int × Int × Int × Int × Int) × List (Int × Int × Int × Int) × Unit) (fun rec x =>
 bif Decidable.decide (x.snd.fst < x.fst) then
  bif inRange (Go.IntKind.wrap Go.IntKind.i64 (5 + x.snd.fst)) (List.length x.snd.snd.snd.snd.snd.snd.snd.snd.snd.snd.snd.snd.fst) then
   let s0 : List (Int × Int × Int × Int) := List.set x.snd.snd.snd.snd.snd.snd.snd.snd.snd.snd.snd.snd.fst (Int.toNat (Go.IntKind.wrap Go.IntKind.i64 (5 + x.snd.fst))) (1, 2, 0, x.snd.fst)
   rec (x.fst, Go.IntKind.wrap Go.IntKind.i64 (x.snd.fst + 1), x.snd.snd.fst, x.snd.snd.snd.fst, x.snd.snd.snd.snd.fst, x.snd.snd.snd.snd.snd.fst, x.snd.snd.snd.snd.snd.snd.fst, x.snd.snd.snd.snd.snd.snd.snd.fst, x.snd.snd.snd.snd.snd.snd.snd.snd.fst, x.snd.snd.snd.snd.snd.snd.snd.snd.snd.fst, x.snd.snd.snd.snd.snd.snd.snd.snd.snd.snd.fst, x.snd.snd.snd.snd.snd.snd.snd.snd.snd.snd.snd.fst, s0, ())
  else
   none
 else
  Option.bind (f14 x.snd.snd.fst x.snd.snd.snd.fst x.snd.snd.snd.snd.fst x.snd.snd.snd.snd.snd.fst x.snd.snd.snd.snd.snd.snd.snd.snd.snd.snd.fst x.snd.snd.snd.snd.snd.snd.snd.snd.snd.snd.snd.fst x.snd.snd.snd.snd.snd.snd.snd.snd.snd.snd.snd.snd.fst x.snd.snd.snd.snd.snd.snd.fst x.snd.snd.snd.snd.snd.snd.snd.fst x.snd.snd.snd.snd.snd.snd.snd.snd.fst x.snd.snd.snd.snd.snd.snd.snd.snd.snd.fst 0 5) fun y0 =>
   bif x.fst == 4 then
    Option.bind (f15 y0.fst y0.snd.fst y0.snd.snd.fst y0.snd.snd.snd.fst y0.snd.snd.snd.snd.snd.snd.snd.snd.fst y0.snd.snd.snd.snd.snd.snd.snd.snd.snd.fst y0.snd.snd.snd.snd.snd.snd.snd.snd.snd.snd.fst y0.snd.snd.snd.snd.fst y0.snd.snd.snd.snd.snd.fst y0.snd.snd.snd.snd.snd.snd.fst y0.snd.snd.snd.snd.snd.snd.snd.fst x.snd.snd.fst x.snd.snd.snd.fst x.snd.snd.snd.snd.fst x.snd.snd.snd.snd.snd.fst x.snd.snd.snd.snd.snd.snd.snd.snd.snd.snd.fst x.snd.snd.snd.snd.snd.snd.snd.snd.snd.snd.snd.fst x.snd.snd.snd.snd.snd.snd.snd.snd.snd.snd.snd.snd.fst x.snd.snd.snd.snd.snd.snd.fst x.snd.snd.snd.snd.snd.snd.snd.fst x.snd.snd.snd.snd.snd.snd.snd.snd.fst x.snd.snd.snd.snd.snd.snd.snd.snd.snd.fst) fun y1 =>
     some ((y1.fst, ()))
   else
    bif inRange 0 (List.length y0.snd.snd.snd.snd.snd.snd.snd.snd.snd.snd.fst) then
     bif (List.getD y0.snd.snd.snd.snd.snd.snd.snd.snd.snd.snd.fst 0 (0, 0, 0, 0)).snd.fst != 2 then
      some ((Bool.false, ()))
     else
      bif inRange 0 (List.length y0.snd.snd.snd.snd.snd.snd.snd.snd.snd.snd.fst) then
       bif (List.getD y0.snd.snd.snd.snd.snd.snd.snd.snd.snd.snd.fst 0 (0, 0, 0, 0)).snd.snd.snd != x.fst then
        some ((Bool.false, ()))
       else
        Option.bind (f14 y0.fst y0.snd.fst y0.snd.snd.fst y0.snd.snd.snd.fst y0.snd.snd.snd.snd.snd.snd.snd.snd.fst y0.snd.snd.snd.snd.snd.snd.snd.snd.snd.fst y0.snd.snd.snd.snd.snd.snd.snd.snd.snd.snd.fst y0.snd.snd.snd.snd.fst y0.snd.snd.snd.snd.snd.fst y0.snd.snd.snd.snd.snd.snd.fst y0.snd.snd.snd.snd.snd.snd.snd.fst 0 8) fun y2 =>
         bif Decidable.decide (x.fst > 0) then
          bif inRange 5 (List.length y2.snd.snd.snd.snd.snd.snd.snd.snd.snd.snd.fst) then
           bif (List.getD y2.snd.snd.snd.snd.snd.snd.snd.snd.snd.snd.fst 5 (0, 0, 0, 0)).snd.fst == 1 then
            bif inRange 0 (List.length y2.snd.snd.snd.snd.snd.snd.snd.snd.snd.snd.fst) then
             bif inRange 0 (List.length y0.snd.snd.snd.snd.snd.snd.snd.snd.snd.snd.fst) then
              some (((List.getD y2.snd.snd.snd.snd.snd.snd.snd.snd.snd.snd.fst 0 (0, 0, 0, 0)).fst == (List.getD y0.snd.snd.snd.snd.snd.snd.snd.snd.snd.snd.fst 0 (0, 0, 0, 0)).fst && ((List.getD y2.snd.snd.snd.snd.snd.snd.snd.snd.snd.snd.fst 0 (0, 0, 0, 0)).snd.fst == (List.getD y0.snd.snd.snd.snd.snd.snd.snd.snd.snd.snd.fst 0 (0, 0, 0, 0)).snd.fst && ((List.getD y2.snd.snd.snd.snd.snd.snd.snd.snd.snd.snd.fst 0 (0, 0, 0, 0)).snd.snd.fst == (List.getD y0.snd.snd.snd.snd.snd.snd.snd.snd.snd.snd.fst 0 (0, 0, 0, 0)).snd.snd.fst && ((List.getD y2.snd.snd.snd.snd.snd.snd.snd.snd.snd.snd.fst 0 (0, 0, 0, 0)).snd.snd.snd == (List.getD y0.snd.snd.snd.snd.snd.snd.snd.snd.snd.snd.fst 0 (0, 0, 0, 0)).snd.snd.snd && Bool.true))), ()))
             else
              none
            else
             none
           else
            some ((Bool.false, ()))
          else
           none
         else
          Option.bind (f15 y2.fst y2.snd.fst y2.snd.snd.fst y2.snd.snd.snd.fst y2.snd.snd.snd.snd.snd.snd.snd.snd.fst y2.snd.snd.snd.snd.snd.snd.snd.snd.snd.fst y2.snd.snd.snd.snd.snd.snd.snd.snd.snd.snd.fst y2.snd.snd.snd.snd.fst y2.snd.snd.snd.snd.snd.fst y2.snd.snd.snd.snd.snd.snd.fst y2.snd.snd.snd.snd.snd.snd.snd.fst x.snd.snd.fst x.snd.snd.snd.fst x.snd.snd.snd.snd.fst x.snd.snd.snd.snd.snd.fst x.snd.snd.snd.snd.snd.snd.snd.snd.snd.snd.fst x.snd.snd.snd.snd.snd.snd.snd.snd.snd.snd.snd.fst x.snd.snd.snd.snd.snd.snd.snd.snd.snd.snd.snd.snd.fst x.snd.snd.snd.snd.snd.snd.fst x.snd.snd.snd.snd.snd.snd.snd.fst x.snd.snd.snd.snd.snd.snd.snd.snd.fst x.snd.snd.snd.snd.snd.snd.snd.snd.snd.fst) fun y3 =>
           some ((y3.fst, ()))
      else
       none
    else
     none
 ) (100000000000000000000) (x)
def f5 (a0 : Int) (a1 : Int) (a2 : Int) : Option (Bool × Unit) :=
 Option.bind (f10) fun y0 =>
  bif !y0.fst then
   some ((Bool.false, ()))
  else
   Option.bind (f11 a0 0 0 1 [] 0) fun y1 =>
    Option.bind (f19 y1.snd.snd.snd.snd.snd.snd.snd.snd.snd.fst 0) fun y2 =>
     Option.bind (f12 a2 5) fun y3 =>
      Option.bind (f12 a1 3) fun y4 =>
       bif inRange y2.fst (List.length y1.snd.snd.snd.snd.snd.snd.snd.snd.snd.fst) then
        bif inRange y2.fst (List.length y1.snd.snd.snd.snd.snd.snd.snd.snd.snd.fst) then
         bif inRange 0 (List.length y1.snd.snd.snd.snd.snd.snd.snd.snd.snd.snd.fst) then
          let s0 : List (Int × Int × Int × Int) := List.set y1.snd.snd.snd.snd.snd.snd.snd.snd.snd.snd.fst 0 (Go.IntKind.wrap Go.IntKind.i64 (1 + y4.fst), 1, (List.getD y1.snd.snd.snd.snd.snd.snd.snd.snd.snd.fst (Int.toNat y2.fst) (0, 0, 0, 0, 0, 0, 0, 0, 0, 0, 0)).snd.snd.snd.fst, (List.getD y1.snd.snd.snd.snd.snd.snd.snd.snd.snd.fst (Int.toNat y2.fst) (0, 0, 0, 0, 0, 0, 0, 0, 0, 0, 0)).snd.snd.snd.snd.fst)
          f5.L1 ((y3.fst, 0, y1.fst, y1.snd.fst, y1.snd.snd.fst, y1.snd.snd.snd.fst, y1.snd.snd.snd.snd.fst, y1.snd.snd.snd.snd.snd.fst, y1.snd.snd.snd.snd.snd.snd.fst, y1.snd.snd.snd.snd.snd.snd.snd.fst, y1.snd.snd.snd.snd.snd.snd.snd.snd.fst, y1.snd.snd.snd.snd.snd.snd.snd.snd.snd.fst, s0, ()))
         else
          none
        else
         none
       else
        none
def f5.ins : Shape := ⟨[(0, .c (.int .i64)), (1, .c (.int .i64)), (2, .c (.int .i64))], []⟩
def f5.outs : List Shape := [⟨[(0, .c (.bool))], []⟩]
def f5.S : FnSpec := ⟨f5.ins, f5.outs, [], fun x => f5 x.1 x.2.1 x.2.2.1⟩
def f5.E (fuel : Nat) : Env := ⟨tisB, [(12, f12.S), (11, f11.S), (14, f14.S), (10, f10.S), (19, f19.S), (15, f15.S)], [(38, [.int .i64, .int .i64, .int .i64, .int .i64])], [], [(9, ⟨[(2, .c (.int .i64)), (7, .c (.ptr 0 0)), (9, .c (.int .i64))], [(0, .box [.int .i64, .int .i64, .int .i64, .int .i64, .own 1, .own 2, .own 3, .int .i64, .int .i64, .int .i64, .int .i64]), (1, .arr (.int .u8)), (2, .arr (.prod (.int .i64) (.prod (.int .i64) (.prod (.int .i64) (.prod (.int .i64) (.prod (.int .i64) (.prod (.int .i64) (.prod (.int .i64) (.prod (.int .i64) (.prod (.int .i64) (.prod (.int .i64) (.int .i64)))))))))))), (3, .arr (.prod (.int .i64) (.prod (.int .i64) (.prod (.int .i64) (.int .i64)))))]⟩)], [], 0, [], fuel⟩
theorem f5.run : ∀ x, runFn (f5.E 100000000000000000000) Go.Proofs.Try.f5 ((Go.Proofs.Try.f5.body).getD .skip) f5.S x = f5.S.f x := by intro x; kernel_rfl
theorem f5.sound : Sound Go.Proofs.Try.prog 5 f5.S := sound_of_run (fun _ => f5.E 100000000000000000000) (by kernel_rfl) (by kernel_rfl) (by kernel_rfl) ordersB (fun _ => ⟨tisB_ok, (EqsOk.cons eqB38 (EqsOk.nil _)), (FnsOk.cons f12.sound (FnsOk.cons f11.sound (FnsOk.cons f14.sound (FnsOk.cons f10.sound (FnsOk.cons f19.sound (FnsOk.cons f15.sound FnsOk.nil))))))⟩) (fun _ => rfl) (by kernel_rfl) (by kernel_rfl) (fun x r h => (f5.run x).trans h)
/-! f6: adit/aditlaw7.GoodsHeals -/
def f6.L1 (x : Int × Int × Int × Int × Int × Int × Int × Int × Int × Int × Int × Int × List Int × List (Int × Int × Int × Int × Int × Int × Int × Int × Int × Int × Int) × List (Int × Int × Int × Int) × Unit) : Option (Bool × Unit) :=
 it (X := Int × Int × Int × Int × Int × Int × Int × Int × Int × Int × Int × Int × List Int × List (Int × Int × Int × Int × Int × Int × Int × Int × Int × Int × Int) × List (Int × Int × Int × Int) × Unit) (fun rec x =>
 bif Decidable.decide (x.snd.snd.snd.fst < 4) then
  Option.bind (f14 x.snd.snd.snd.snd.fst x.snd.snd.snd.snd.snd.fst x.snd.snd.snd.snd.snd.snd.fst x.snd.snd.snd.snd.snd.snd.snd.fst x.snd.snd.snd.snd.snd.snd.snd.snd.snd.snd.snd.snd.fst x.snd.snd.snd.snd.snd.snd.snd.snd.snd.snd.snd.snd.snd.fst x.snd.snd.snd.snd.snd.snd.snd.snd.snd.snd.snd.snd.snd.snd.fst x.snd.snd.snd.snd.snd.snd.snd.snd.fst x.snd.snd.snd.snd.snd.snd.snd.snd.snd.fst x.snd.snd.snd.snd.snd.snd.snd.snd.snd.snd.fst x.snd.snd.snd.snd.snd.snd.snd.snd.snd.snd.snd.fst 0 6) fun y0 =>
   bif Decidable.decide (x.snd.snd.snd.fst ≥ x.snd.fst) then
    Option.bind (f15 y0.fst y0.snd.fst y0.snd.snd.fst y0.snd.snd.snd.fst y0.snd.snd.snd.snd.snd.snd.snd.snd.fst y0.snd.snd.snd.snd.snd.snd.snd.snd.snd.fst y0.snd.snd.snd.snd.snd.snd.snd.snd.snd.snd.fst y0.snd.snd.snd.snd.fst y0.snd.snd.snd.snd.snd.fst y0.snd.snd.snd.snd.snd.snd.fst y0.snd.snd.snd.snd.snd.snd.snd.fst x.snd.snd.snd.snd.fst x.snd.snd.snd.snd.snd.fst x.snd.snd.snd.snd.snd.snd.fst x.snd.snd.snd.snd.snd.snd.snd.fst x.snd.snd.snd.snd.snd.snd.snd.snd.snd.snd.snd.snd.fst x.snd.snd.snd.snd.snd.snd.snd.snd.snd.snd.snd.snd.snd.fst x.snd.snd.snd.snd.snd.snd.snd.snd.snd.snd.snd.snd.snd.snd.fst x.snd.snd.snd.snd.snd.snd.snd.snd.fst x.snd.snd.snd.snd.snd.snd.snd.snd.snd.fst x.snd.snd.snd.snd.snd.snd.snd.snd.snd.snd.fst x.snd.snd.snd.snd.snd.snd.snd.snd.snd.snd.snd.fst) fun y1 =>
     some ((y1.fst, ()))
   else
    bif inRange x.snd.snd.fst (List.length y0.snd.snd.snd.snd.snd.snd.snd.snd.snd.fst) then
     bif (List.getD y0.snd.snd.snd.snd.snd.snd.snd.snd.snd.fst (Int.toNat x.snd.snd.fst) (0, 0, 0, 0, 0, 0, 0, 0, 0, 0, 0)).snd.snd.snd.snd.snd.fst != minI 20 (Go.IntKind.wrap Go.IntKind.i64 (x.fst + 6)) then
      some ((Bool.false, ()))
     else
      bif inRange x.snd.snd.fst (List.length y0.snd.snd.snd.snd.snd.snd.snd.snd.snd.fst) then
       bif (List.getD y0.snd.snd.snd.snd.snd.snd.snd.snd.snd.fst (Int.toNat x.snd.snd.fst) (0, 0, 0, 0, 0, 0, 0, 0, 0, 0, 0)).snd.snd.snd.snd.snd.snd.snd.snd.snd.fst != 0 then
        some ((Bool.false, ()))
       else
        bif inRange x.snd.snd.snd.fst (List.length y0.snd.snd.snd.snd.snd.snd.snd.snd.snd.snd.fst) then
         bif !((List.getD y0.snd.snd.snd.snd.snd.snd.snd.snd.snd.snd.fst (Int.toNat x.snd.snd.snd.fst) (0, 0, 0, 0)).fst == 0 && ((List.getD y0.snd.snd.snd.snd.snd.snd.snd.snd.snd.snd.fst (Int.toNat x.snd.snd.snd.fst) (0, 0, 0, 0)).snd.fst == 0 && ((List.getD y0.snd.snd.snd.snd.snd.snd.snd.snd.snd.snd.fst (Int.toNat x.snd.snd.snd.fst) (0, 0, 0, 0)).snd.snd.fst == 0 && ((List.getD y0.snd.snd.snd.snd.snd.snd.snd.snd.snd.snd.fst (Int.toNat x.snd.snd.snd.fst) (0, 0, 0, 0)).snd.snd.snd == 0 && Bool.true)))) then
          some ((Bool.false, ()))
         else
          rec (minI 20 (Go.IntKind.wrap Go.IntKind.i64 (x.fst + 6)), x.snd.fst, x.snd.snd.fst, Go.IntKind.wrap Go.IntKind.i64 (x.snd.snd.snd.fst + 1), y0.fst, y0.snd.fst, y0.snd.snd.fst, y0.snd.snd.snd.fst, y0.snd.snd.snd.snd.fst, y0.snd.snd.snd.snd.snd.fst, y0.snd.snd.snd.snd.snd.snd.fst, y0.snd.snd.snd.snd.snd.snd.snd.fst, y0.snd.snd.snd.snd.snd.snd.snd.snd.fst, y0.snd.snd.snd.snd.snd.snd.snd.snd.snd.fst, y0.snd.snd.snd.snd.snd.snd.snd.snd.snd.snd.fst, ())
        else
         none
      else
       none
    else
     none
 else
  some ((Bool.true, ()))
 ) (100000000000000000000) (x)
def f6.L2 (x : Int × Int × Int × Int × Int × Int × Int × Int × Int × Int × Int × List Int × List (Int × Int × Int × Int × Int × Int × Int × Int × Int × Int × Int) × List (Int × Int × Int × Int) × Unit) : Option (Bool × Unit) :=
 it (X := Int × Int × Int × Int × Int × Int × Int × Int × Int × Int × Int × List Int × List (Int × Int × Int × Int × Int × Int × Int × Int × Int × Int × Int) × List (Int × Int × Int × Int) × Unit) (fun rec x =>
 bif Decidable.decide (x.snd.snd.fst < x.fst) then
  bif inRange x.snd.snd.fst (List.length x.snd.snd.snd.snd.snd.snd.snd.snd.snd.snd.snd.snd.snd.fst) then
   let s0 : List (Int × Int × Int × Int) := List.set x.snd.snd.snd.snd.snd.snd.snd.snd.snd.snd.snd.snd.snd.fst (Int.toNat x.snd.snd.fst) (1, 2, 0, x.snd.snd.fst)
   rec (x.fst, x.snd.fst, Go.IntKind.wrap Go.IntKind.i64 (x.snd.snd.fst + 1), x.snd.snd.snd.fst, x.snd.snd.snd.snd.fst, x.snd.snd.snd.snd.snd.fst, x.snd.snd.snd.snd.snd.snd.fst, x.snd.snd.snd.snd.snd.snd.snd.fst, x.snd.snd.snd.snd.snd.snd.snd.snd.fst, x.snd.snd.snd.snd.snd.snd.snd.snd.snd.fst, x.snd.snd.snd.snd.snd.snd.snd.snd.snd.snd.fst, x.snd.snd.snd.snd.snd.snd.snd.snd.snd.snd.snd.fst, x.snd.snd.snd.snd.snd.snd.snd.snd.snd.snd.snd.snd.fst, s0, ())
  else
   none
 else
  bif inRange x.snd.fst (List.length x.snd.snd.snd.snd.snd.snd.snd.snd.snd.snd.snd.snd.fst) then
   f6.L1 (((List.getD x.snd.snd.snd.snd.snd.snd.snd.snd.snd.snd.snd.snd.fst (Int.toNat x.snd.fst) (0, 0, 0, 0, 0, 0, 0, 0, 0, 0, 0)).snd.snd.snd.snd.snd.fst, x.fst, x.snd.fst, 0, x.snd.snd.snd.fst, x.snd.snd.snd.snd.fst, x.snd.snd.snd.snd.snd.fst, x.snd.snd.snd.snd.snd.snd.fst, x.snd.snd.snd.snd.snd.snd.snd.fst, x.snd.snd.snd.snd.snd.snd.snd.snd.fst, x.snd.snd.snd.snd.snd.snd.snd.snd.snd.fst, x.snd.snd.snd.snd.snd.snd.snd.snd.snd.snd.fst, x.snd.snd.snd.snd.snd.snd.snd.snd.snd.snd.snd.fst, x.snd.snd.snd.snd.snd.snd.snd.snd.snd.snd.snd.snd.fst, x.snd.snd.snd.snd.snd.snd.snd.snd.snd.snd.snd.snd.snd.fst, ()))
  else
   none
 ) (100000000000000000000) (x)
def f6 (a0 : Int) (a1 : Int) (a2 : Int) (a3 : Int) : Option (Bool × Unit) :=
 Option.bind (f10) fun y0 =>
  bif !y0.fst then
   some ((Bool.false, ()))
  else
   Option.bind (f11 a0 0 0 1 [] 0) fun y1 =>
    Option.bind (f19 y1.snd.snd.snd.snd.snd.snd.snd.snd.snd.fst 0) fun y2 =>
     Option.bind (f12 a1 20) fun y3 =>
      Option.bind (f12 a2 10) fun y4 =>
       bif inRange y2.fst (List.length y1.snd.snd.snd.snd.snd.snd.snd.snd.snd.fst) then
        let s0 : List (Int × Int × Int × Int × Int × Int × Int × Int × Int × Int × Int) := List.set y1.snd.snd.snd.snd.snd.snd.snd.snd.snd.fst (Int.toNat y2.fst) ((List.getD y1.snd.snd.snd.snd.snd.snd.snd.snd.snd.fst (Int.toNat y2.fst) (0, 0, 0, 0, 0, 0, 0, 0, 0, 0, 0)).fst, (List.getD y1.snd.snd.snd.snd.snd.snd.snd.snd.snd.fst (Int.toNat y2.fst) (0, 0, 0, 0, 0, 0, 0, 0, 0, 0, 0)).snd.fst, (List.getD y1.snd.snd.snd.snd.snd.snd.snd.snd.snd.fst (Int.toNat y2.fst) (0, 0, 0, 0, 0, 0, 0, 0, 0, 0, 0)).snd.snd.fst, (List.getD y1.snd.snd.snd.snd.snd.snd.snd.snd.snd.fst (Int.toNat y2.fst) (0, 0, 0, 0, 0, 0, 0, 0, 0, 0, 0)).snd.snd.snd.fst, (List.getD y1.snd.snd.snd.snd.snd.snd.snd.snd.snd.fst (Int.toNat y2.fst) (0, 0, 0, 0, 0, 0, 0, 0, 0, 0, 0)).snd.snd.snd.snd.fst, Go.IntKind.wrap Go.IntKind.i64 (1 + y3.fst), (List.getD y1.snd.snd.snd.snd.snd.snd.snd.snd.snd.fst (Int.toNat y2.fst) (0, 0, 0, 0, 0, 0, 0, 0, 0, 0, 0)).snd.snd.snd.snd.snd.snd.fst, (List.getD y1.snd.snd.snd.snd.snd.snd.snd.snd.snd.fst (Int.toNat y2.fst) (0, 0, 0, 0, 0, 0, 0, 0, 0, 0, 0)).snd.snd.snd.snd.snd.snd.snd.fst, (List.getD y1.snd.snd.snd.snd.snd.snd.snd.snd.snd.fst (Int.toNat y2.fst) (0, 0, 0, 0, 0, 0, 0, 0, 0, 0, 0)).snd.snd.snd.snd.snd.snd.snd.snd.fst, (List.getD y1.snd.snd.snd.snd.snd.snd.snd.snd.snd.fst (Int.toNat y2.fst) (0, 0, 0, 0, 0, 0, 0, 0, 0, 0, 0)).snd.snd.snd.snd.snd.snd.snd.snd.snd.fst, (List.getD y1.snd.snd.snd.snd.snd.snd.snd.snd.snd.fst (Int.toNat y2.fst) (0, 0, 0, 0, 0, 0, 0, 0, 0, 0, 0)).snd.snd.snd.snd.snd.snd.snd.snd.snd.snd)
        bif inRange y2.fst (List.length s0) then
         Option.bind (f12 a3 4) fun y5 =>
          let s1 : List (Int × Int × Int × Int × Int × Int × Int × Int × Int × Int × Int) := List.set s0 (Int.toNat y2.fst) ((List.getD s0 (Int.toNat y2.fst) (0, 0, 0, 0, 0, 0, 0, 0, 0, 0, 0)).fst, (List.getD s0 (Int.toNat y2.fst) (0, 0, 0, 0, 0, 0, 0, 0, 0, 0, 0)).snd.fst, (List.getD s0 (Int.toNat y2.fst) (0, 0, 0, 0, 0, 0, 0, 0, 0, 0, 0)).snd.snd.fst, (List.getD s0 (Int.toNat y2.fst) (0, 0, 0, 0, 0, 0, 0, 0, 0, 0, 0)).snd.snd.snd.fst, (List.getD s0 (Int.toNat y2.fst) (0, 0, 0, 0, 0, 0, 0, 0, 0, 0, 0)).snd.snd.snd.snd.fst, (List.getD s0 (Int.toNat y2.fst) (0, 0, 0, 0, 0, 0, 0, 0, 0, 0, 0)).snd.snd.snd.snd.snd.fst, (List.getD s0 (Int.toNat y2.fst) (0, 0, 0, 0, 0, 0, 0, 0, 0, 0, 0)).snd.snd.snd.snd.snd.snd.fst, (List.getD s0 (Int.toNat y2.fst) (0, 0, 0, 0, 0, 0, 0, 0, 0, 0, 0)).snd.snd.snd.snd.snd.snd.snd.fst, (List.getD s0 (Int.toNat y2.fst) (0, 0, 0, 0, 0, 0, 0, 0, 0, 0, 0)).snd.snd.snd.snd.snd.snd.snd.snd.fst, y4.fst, (List.getD s0 (Int.toNat y2.fst) (0, 0, 0, 0, 0, 0, 0, 0, 0, 0, 0)).snd.snd.snd.snd.snd.snd.snd.snd.snd.snd)
          f6.L2 ((y5.fst, y2.fst, 0, y1.fst, y1.snd.fst, y1.snd.snd.fst, y1.snd.snd.snd.fst, y1.snd.snd.snd.snd.fst, y1.snd.snd.snd.snd.snd.fst, y1.snd.snd.snd.snd.snd.snd.fst, y1.snd.snd.snd.snd.snd.snd.snd.fst, y1.snd.snd.snd.snd.snd.snd.snd.snd.fst, s1, y1.snd.snd.snd.snd.snd.snd.snd.snd.snd.snd.fst, ()))
        else
         none
       else
        none
def f6.ins : Shape := ⟨[(0, .c (.int .i64)), (1, .c (.int .i64)), (2, .c (.int .i64)), (3, .c (.int .i64))], []⟩
def f6.outs : List Shape := [⟨[(0, .c (.bool))], []⟩]
def f6.S : FnSpec := ⟨f6.ins, f6.outs, [], fun x => f6 x.1 x.2.1 x.2.2.1 x.2.2.2.1⟩
def f6.E (fuel : Nat) : Env := ⟨tisB, [(12, f12.S), (11, f11.S), (14, f14.S), (10, f10.S), (19, f19.S), (15, f15.S)], [(38, [.int .i64, .int .i64, .int .i64, .int .i64])], [], [(9, ⟨[(3, .c (.int .i64)), (9, .c (.ptr 0 0)), (10, .c (.int .i64)), (11, .c (.int .i64))], [(0, .box [.int .i64, .int .i64, .int .i64, .int .i64, .own 1, .own 2, .own 3, .int .i64, .int .i64, .int .i64, .int .i64]), (1, .arr (.int .u8)), (2, .arr (.prod (.int .i64) (.prod (.int .i64) (.prod (.int .i64) (.prod (.int .i64) (.prod (.int .i64) (.prod (.int .i64) (.prod (.int .i64) (.prod (.int .i64) (.prod (.int .i64) (.prod (.int .i64) (.int .i64)))))))))))), (3, .arr (.prod (.int .i64) (.prod (.int .i64) (.prod (.int .i64) (.int .i64)))))]⟩), (14, ⟨[(1, .c (.int .i64)), (3, .c (.int .i64)), (9, .c (.ptr 0 0)), (10, .c (.int .i64)), (12, .c (.int .i64))], [(0, .box [.int .i64, .int .i64, .int .i64, .int .i64, .own 1, .own 2, .own 3, .int .i64, .int .i64, .int .i64, .int .i64]), (1, .arr (.int .u8)), (2, .arr (.prod (.int .i64) (.prod (.int .i64) (.prod (.int .i64) (.prod (.int .i64) (.prod (.int .i64) (.prod (.int .i64) (.prod (.int .i64) (.prod (.int .i64) (.prod (.int .i64) (.prod (.int .i64) (.int .i64)))))))))))), (3, .arr (.prod (.int .i64) (.prod (.int .i64) (.prod (.int .i64) (.int .i64)))))]⟩)], [], 0, [], fuel⟩
theorem f6.run : ∀ x, runFn (f6.E 100000000000000000000) Go.Proofs.Try.f6 ((Go.Proofs.Try.f6.body).getD .skip) f6.S x = f6.S.f x := by intro x; kernel_rfl
theorem f6.sound : Sound Go.Proofs.Try.prog 6 f6.S := sound_of_run (fun _ => f6.E 100000000000000000000) (by kernel_rfl) (by kernel_rfl) (by kernel_rfl) ordersB (fun _ => ⟨tisB_ok, (EqsOk.cons eqB38 (EqsOk.nil _)), (FnsOk.cons f12.sound (FnsOk.cons f11.sound (FnsOk.cons f14.sound (FnsOk.cons f10.sound (FnsOk.cons f19.sound (FnsOk.cons f15.sound FnsOk.nil))))))⟩) (fun _ => rfl) (by kernel_rfl) (by kernel_rfl) (fun x r h => (f6.run x).trans h)
/-! f7: adit/aditlaw7.GoodsGold -/
def f7.L1 (x : Int × Int × Int × Int × Int × Int × Int × Int × Int × Int × Int × Int × List Int × List (Int × Int × Int × Int × Int × Int × Int × Int × Int × Int × Int) × List (Int × Int × Int × Int) × Unit) : Option (Bool × Unit) :=
 it (X := Int × Int × Int × Int × Int × Int × Int × Int × Int × Int × Int × Int × List Int × List (Int × Int × Int × Int × Int × Int × Int × Int × Int × Int × Int) × List (Int × Int × Int × Int) × Unit) (fun rec x =>
 Option.bind (f12 x.fst 10) fun y0 =>
  bif Decidable.decide (x.snd.snd.snd.fst < y0.fst) then
   bif inRange x.snd.fst (List.length x.snd.snd.snd.snd.snd.snd.snd.snd.snd.snd.snd.snd.snd.fst) then
    bif inRange x.snd.fst (List.length x.snd.snd.snd.snd.snd.snd.snd.snd.snd.snd.snd.snd.snd.fst) then
     bif inRange x.snd.snd.snd.fst (List.length x.snd.snd.snd.snd.snd.snd.snd.snd.snd.snd.snd.snd.snd.snd.fst) then
      let s0 : List (Int × Int × Int × Int) := List.set x.snd.snd.snd.snd.snd.snd.snd.snd.snd.snd.snd.snd.snd.snd.fst (Int.toNat x.snd.snd.snd.fst) (4, 1, (List.getD x.snd.snd.snd.snd.snd.snd.snd.snd.snd.snd.snd.snd.snd.fst (Int.toNat x.snd.fst) (0, 0, 0, 0, 0, 0, 0, 0, 0, 0, 0)).snd.snd.snd.fst, (List.getD x.snd.snd.snd.snd.snd.snd.snd.snd.snd.snd.snd.snd.snd.fst (Int.toNat x.snd.fst) (0, 0, 0, 0, 0, 0, 0, 0, 0, 0, 0)).snd.snd.snd.snd.fst)
      Option.bind (f14 x.snd.snd.snd.snd.fst x.snd.snd.snd.snd.snd.fst x.snd.snd.snd.snd.snd.snd.fst x.snd.snd.snd.snd.snd.snd.snd.fst x.snd.snd.snd.snd.snd.snd.snd.snd.snd.snd.snd.snd.fst x.snd.snd.snd.snd.snd.snd.snd.snd.snd.snd.snd.snd.snd.fst s0 x.snd.snd.snd.snd.snd.snd.snd.snd.fst x.snd.snd.snd.snd.snd.snd.snd.snd.snd.fst x.snd.snd.snd.snd.snd.snd.snd.snd.snd.snd.fst x.snd.snd.snd.snd.snd.snd.snd.snd.snd.snd.snd.fst 2 5) fun y1 =>
       bif y1.snd.snd.snd.snd.snd.snd.fst != minI (Go.IntKind.wrap Go.IntKind.i64 (x.snd.snd.fst + 5)) 999 then
        some ((Bool.false, ()))
       else
        bif inRange x.snd.snd.snd.fst (List.length y1.snd.snd.snd.snd.snd.snd.snd.snd.snd.snd.fst) then
         bif !((List.getD y1.snd.snd.snd.snd.snd.snd.snd.snd.snd.snd.fst (Int.toNat x.snd.snd.snd.fst) (0, 0, 0, 0)).fst == 0 && ((List.getD y1.snd.snd.snd.snd.snd.snd.snd.snd.snd.snd.fst (Int.toNat x.snd.snd.snd.fst) (0, 0, 0, 0)).snd.fst == 0 && ((List.getD y1.snd.snd.snd.snd.snd.snd.snd.snd.snd.snd.fst (Int.toNat x.snd.snd.snd.fst) (0, 0, 0, 0)).snd.snd.fst == 0 && ((List.getD y1.snd.snd.snd.snd.snd.snd.snd.snd.snd.snd.fst (Int.toNat x.snd.snd.snd.fst) (0, 0, 0, 0)).snd.snd.snd == 0 && Bool.true)))) then
          some ((Bool.false, ()))
         else
          rec (x.fst, x.snd.fst, minI (Go.IntKind.wrap Go.IntKind.i64 (x.snd.snd.fst + 5)) 999, Go.IntKind.wrap Go.IntKind.i64 (x.snd.snd.snd.fst + 1), y1.fst, y1.snd.fst, y1.snd.snd.fst, y1.snd.snd.snd.fst, y1.snd.snd.snd.snd.fst, y1.snd.snd.snd.snd.snd.fst, y1.snd.snd.snd.snd.snd.snd.fst, y1.snd.snd.snd.snd.snd.snd.snd.fst, y1.snd.snd.snd.snd.snd.snd.snd.snd.fst, y1.snd.snd.snd.snd.snd.snd.snd.snd.snd.fst, y1.snd.snd.snd.snd.snd.snd.snd.snd.snd.snd.fst, ())
        else
         none
     else
      none
    else
     none
   else
    none
  else
   Option.bind (f18 x.snd.snd.snd.snd.fst x.snd.snd.snd.snd.snd.fst x.snd.snd.snd.snd.snd.snd.fst x.snd.snd.snd.snd.snd.snd.snd.fst x.snd.snd.snd.snd.snd.snd.snd.snd.snd.snd.snd.snd.fst x.snd.snd.snd.snd.snd.snd.snd.snd.snd.snd.snd.snd.snd.fst x.snd.snd.snd.snd.snd.snd.snd.snd.snd.snd.snd.snd.snd.snd.fst x.snd.snd.snd.snd.snd.snd.snd.snd.fst x.snd.snd.snd.snd.snd.snd.snd.snd.snd.fst x.snd.snd.snd.snd.snd.snd.snd.snd.snd.snd.fst x.snd.snd.snd.snd.snd.snd.snd.snd.snd.snd.snd.fst) fun y2 =>
    bif y2.fst then
     Option.bind (f20 x.snd.snd.snd.snd.snd.snd.snd.snd.snd.snd.snd.snd.snd.snd.fst 2) fun y3 =>
      some ((y3.fst == 0, ()))
    else
     some ((Bool.false, ()))
 ) (100000000000000000000) (x)
def f7 (a0 : Int) (a1 : Int) (a2 : Int) : Option (Bool × Unit) :=
 Option.bind (f10) fun y0 =>
  bif !y0.fst then
   some ((Bool.false, ()))
  else
   Option.bind (f11 a0 0 2 1 [] a1) fun y1 =>
    Option.bind (f19 y1.snd.snd.snd.snd.snd.snd.snd.snd.snd.fst 2) fun y2 =>
     f7.L1 ((a2, y2.fst, y1.snd.snd.snd.snd.snd.snd.fst, 0, y1.fst, y1.snd.fst, y1.snd.snd.fst, y1.snd.snd.snd.fst, y1.snd.snd.snd.snd.fst, y1.snd.snd.snd.snd.snd.fst, y1.snd.snd.snd.snd.snd.snd.fst, y1.snd.snd.snd.snd.snd.snd.snd.fst, y1.snd.snd.snd.snd.snd.snd.snd.snd.fst, y1.snd.snd.snd.snd.snd.snd.snd.snd.snd.fst, y1.snd.snd.snd.snd.snd.snd.snd.snd.snd.snd.fst, ()))
def f7.ins : Shape := ⟨[(0, .c (.int .i64)), (1, .c (.int .i64)), (2, .c (.int .i64))], []⟩
def f7.outs : List Shape := [⟨[(0, .c (.bool))], []⟩]
def f7.S : FnSpec := ⟨f7.ins, f7.outs, [], fun x => f7 x.1 x.2.1 x.2.2.1⟩
def f7.E (fuel : Nat) : Env := ⟨tisB, [(12, f12.S), (11, f11.S), (14, f14.S), (18, f18.S), (10, f10.S), (19, f19.S), (20, f20.S)], [(38, [.int .i64, .int .i64, .int .i64, .int .i64])], [], [(8, ⟨[(2, .c (.int .i64)), (7, .c (.ptr 0 0)), (8, .c (.int .i64)), (9, .c (.int .i64)), (10, .c (.int .i64))], [(0, .box [.int .i64, .int .i64, .int .i64, .int .i64, .own 1, .own 2, .own 3, .int .i64, .int .i64, .int .i64, .int .i64]), (1, .arr (.int .u8)), (2, .arr (.prod (.int .i64) (.prod (.int .i64) (.prod (.int .i64) (.prod (.int .i64) (.prod (.int .i64) (.prod (.int .i64) (.prod (.int .i64) (.prod (.int .i64) (.prod (.int .i64) (.prod (.int .i64) (.int .i64)))))))))))), (3, .arr (.prod (.int .i64) (.prod (.int .i64) (.prod (.int .i64) (.int .i64)))))]⟩)], [], 0, [], fuel⟩
theorem f7.run : ∀ x, runFn (f7.E 100000000000000000000) Go.Proofs.Try.f7 ((Go.Proofs.Try.f7.body).getD .skip) f7.S x = f7.S.f x := by intro x; kernel_rfl
theorem f7.sound : Sound Go.Proofs.Try.prog 7 f7.S := sound_of_run (fun _ => f7.E 100000000000000000000) (by kernel_rfl) (by kernel_rfl) (by kernel_rfl) ordersB (fun _ => ⟨tisB_ok, (EqsOk.cons eqB38 (EqsOk.nil _)), (FnsOk.cons f12.sound (FnsOk.cons f11.sound (FnsOk.cons f14.sound (FnsOk.cons f18.sound (FnsOk.cons f10.sound (FnsOk.cons f19.sound (FnsOk.cons f20.sound FnsOk.nil)))))))⟩) (fun _ => rfl) (by kernel_rfl) (by kernel_rfl) (fun x r h => (f7.run x).trans h)
/-! f21: adit/goods.Sweep -/
def f21.L1 (x : Int × Int × Int × Int × Int × Int × Int × Int × Int × Int × Int × Int × Int × Int × Int × Int × Int × Int × Int × List (Int × Int × Int × Int) × List Int × List (Int × Int × Int × Int × Int × Int × Int × Int × Int × Int × Int) × Unit) : Option (Int × Int × Int × Int × Int × Int × Int × Int × List Int × List (Int × Int × Int × Int × Int × Int × Int × Int × Int × Int × Int) × List (Int × Int × Int × Int) × Unit) :=
 it (X := Int × Int × Int × Int × Int × Int × Int × Int × Int × Int × Int × Int × Int × Int × Int × Int × Int × Int × Int × List (Int × Int × Int × Int) × List Int × List (Int × Int × Int × Int × Int × Int × Int × Int × Int × Int × Int) × Unit) (fun rec x =>
 bif Decidable.decide (x.snd.snd.fst < x.snd.fst) then
  bif inRange x.snd.snd.fst (List.length x.snd.snd.snd.snd.snd.snd.snd.snd.snd.snd.snd.snd.snd.snd.snd.snd.snd.snd.snd.fst) then
   bif (List.getD x.snd.snd.snd.snd.snd.snd.snd.snd.snd.snd.snd.snd.snd.snd.snd.snd.snd.snd.snd.fst (Int.toNat x.snd.snd.fst) (0, 0, 0, 0)).snd.fst == 2 then
    bif (List.getD x.snd.snd.snd.snd.snd.snd.snd.snd.snd.snd.snd.snd.snd.snd.snd.snd.snd.snd.snd.fst (Int.toNat x.snd.snd.fst) (0, 0, 0, 0)).snd.snd.fst == x.fst then
     bif inRange x.snd.snd.fst (List.length x.snd.snd.snd.snd.snd.snd.snd.snd.snd.snd.snd.snd.snd.snd.snd.snd.snd.snd.snd.fst) then
      rec (x.fst, x.snd.fst, Go.IntKind.wrap Go.IntKind.i64 (x.snd.snd.fst + 1), x.snd.snd.snd.fst, x.snd.snd.snd.snd.fst, x.snd.snd.snd.snd.snd.fst, x.snd.snd.snd.snd.snd.snd.fst, x.snd.snd.snd.snd.snd.snd.snd.fst, x.snd.snd.snd.snd.snd.snd.snd.snd.fst, x.snd.snd.snd.snd.snd.snd.snd.snd.snd.fst, x.snd.snd.snd.snd.snd.snd.snd.snd.snd.snd.fst, x.snd.snd.snd.snd.snd.snd.snd.snd.snd.snd.snd.fst, x.snd.snd.snd.snd.snd.snd.snd.snd.snd.snd.snd.snd.fst, x.snd.snd.snd.snd.snd.snd.snd.snd.snd.snd.snd.snd.snd.fst, x.snd.snd.snd.snd.snd.snd.snd.snd.snd.snd.snd.snd.snd.snd.fst, x.snd.snd.snd.snd.snd.snd.snd.snd.snd.snd.snd.snd.snd.snd.snd.fst, x.snd.snd.snd.snd.snd.snd.snd.snd.snd.snd.snd.snd.snd.snd.snd.snd.fst, x.snd.snd.snd.snd.snd.snd.snd.snd.snd.snd.snd.snd.snd.snd.snd.snd.snd.fst, x.snd.snd.snd.snd.snd.snd.snd.snd.snd.snd.snd.snd.snd.snd.snd.snd.snd.snd.fst, List.set x.snd.snd.snd.snd.snd.snd.snd.snd.snd.snd.snd.snd.snd.snd.snd.snd.snd.snd.snd.fst (Int.toNat x.snd.snd.fst) (0, 0, 0, 0), x.snd.snd.snd.snd.snd.snd.snd.snd.snd.snd.snd.snd.snd.snd.snd.snd.snd.snd.snd.snd.fst, x.snd.snd.snd.snd.snd.snd.snd.snd.snd.snd.snd.snd.snd.snd.snd.snd.snd.snd.snd.snd.snd.fst, ())
     else
      none
    else
     rec (x.fst, x.snd.fst, Go.IntKind.wrap Go.IntKind.i64 (x.snd.snd.fst + 1), x.snd.snd.snd.fst, x.snd.snd.snd.snd.fst, x.snd.snd.snd.snd.snd.fst, x.snd.snd.snd.snd.snd.snd.fst, x.snd.snd.snd.snd.snd.snd.snd.fst, x.snd.snd.snd.snd.snd.snd.snd.snd.fst, x.snd.snd.snd.snd.snd.snd.snd.snd.snd.fst, x.snd.snd.snd.snd.snd.snd.snd.snd.snd.snd.fst, x.snd.snd.snd.snd.snd.snd.snd.snd.snd.snd.snd.fst, x.snd.snd.snd.snd.snd.snd.snd.snd.snd.snd.snd.snd.fst, x.snd.snd.snd.snd.snd.snd.snd.snd.snd.snd.snd.snd.snd.fst, x.snd.snd.snd.snd.snd.snd.snd.snd.snd.snd.snd.snd.snd.snd.fst, x.snd.snd.snd.snd.snd.snd.snd.snd.snd.snd.snd.snd.snd.snd.snd.fst, x.snd.snd.snd.snd.snd.snd.snd.snd.snd.snd.snd.snd.snd.snd.snd.snd.fst, x.snd.snd.snd.snd.snd.snd.snd.snd.snd.snd.snd.snd.snd.snd.snd.snd.snd.fst, x.snd.snd.snd.snd.snd.snd.snd.snd.snd.snd.snd.snd.snd.snd.snd.snd.snd.snd.fst, x.snd.snd.snd.snd.snd.snd.snd.snd.snd.snd.snd.snd.snd.snd.snd.snd.snd.snd.snd.fst, x.snd.snd.snd.snd.snd.snd.snd.snd.snd.snd.snd.snd.snd.snd.snd.snd.snd.snd.snd.snd.fst, x.snd.snd.snd.snd.snd.snd.snd.snd.snd.snd.snd.snd.snd.snd.snd.snd.snd.snd.snd.snd.snd.fst, ())
   else
    bif (List.getD x.snd.snd.snd.snd.snd.snd.snd.snd.snd.snd.snd.snd.snd.snd.snd.snd.snd.snd.snd.fst (Int.toNat x.snd.snd.fst) (0, 0, 0, 0)).snd.fst == 3 then
     bif (List.getD x.snd.snd.snd.snd.snd.snd.snd.snd.snd.snd.snd.snd.snd.snd.snd.snd.snd.snd.snd.fst (Int.toNat x.snd.snd.fst) (0, 0, 0, 0)).snd.snd.fst == x.fst then
      bif inRange x.snd.snd.fst (List.length x.snd.snd.snd.snd.snd.snd.snd.snd.snd.snd.snd.snd.snd.snd.snd.snd.snd.snd.snd.fst) then
       rec (x.fst, x.snd.fst, Go.IntKind.wrap Go.IntKind.i64 (x.snd.snd.fst + 1), x.snd.snd.snd.fst, x.snd.snd.snd.snd.fst, x.snd.snd.snd.snd.snd.fst, x.snd.snd.snd.snd.snd.snd.fst, x.snd.snd.snd.snd.snd.snd.snd.fst, x.snd.snd.snd.snd.snd.snd.snd.snd.fst, x.snd.snd.snd.snd.snd.snd.snd.snd.snd.fst, x.snd.snd.snd.snd.snd.snd.snd.snd.snd.snd.fst, x.snd.snd.snd.snd.snd.snd.snd.snd.snd.snd.snd.fst, x.snd.snd.snd.snd.snd.snd.snd.snd.snd.snd.snd.snd.fst, x.snd.snd.snd.snd.snd.snd.snd.snd.snd.snd.snd.snd.snd.fst, x.snd.snd.snd.snd.snd.snd.snd.snd.snd.snd.snd.snd.snd.snd.fst, x.snd.snd.snd.snd.snd.snd.snd.snd.snd.snd.snd.snd.snd.snd.snd.fst, x.snd.snd.snd.snd.snd.snd.snd.snd.snd.snd.snd.snd.snd.snd.snd.snd.fst, x.snd.snd.snd.snd.snd.snd.snd.snd.snd.snd.snd.snd.snd.snd.snd.snd.snd.fst, x.snd.snd.snd.snd.snd.snd.snd.snd.snd.snd.snd.snd.snd.snd.snd.snd.snd.snd.fst, List.set x.snd.snd.snd.snd.snd.snd.snd.snd.snd.snd.snd.snd.snd.snd.snd.snd.snd.snd.snd.fst (Int.toNat x.snd.snd.fst) (0, 0, 0, 0), x.snd.snd.snd.snd.snd.snd.snd.snd.snd.snd.snd.snd.snd.snd.snd.snd.snd.snd.snd.snd.fst, x.snd.snd.snd.snd.snd.snd.snd.snd.snd.snd.snd.snd.snd.snd.snd.snd.snd.snd.snd.snd.snd.fst, ())
      else
       none
     else
      rec (x.fst, x.snd.fst, Go.IntKind.wrap Go.IntKind.i64 (x.snd.snd.fst + 1), x.snd.snd.snd.fst, x.snd.snd.snd.snd.fst, x.snd.snd.snd.snd.snd.fst, x.snd.snd.snd.snd.snd.snd.fst, x.snd.snd.snd.snd.snd.snd.snd.fst, x.snd.snd.snd.snd.snd.snd.snd.snd.fst, x.snd.snd.snd.snd.snd.snd.snd.snd.snd.fst, x.snd.snd.snd.snd.snd.snd.snd.snd.snd.snd.fst, x.snd.snd.snd.snd.snd.snd.snd.snd.snd.snd.snd.fst, x.snd.snd.snd.snd.snd.snd.snd.snd.snd.snd.snd.snd.fst, x.snd.snd.snd.snd.snd.snd.snd.snd.snd.snd.snd.snd.snd.fst, x.snd.snd.snd.snd.snd.snd.snd.snd.snd.snd.snd.snd.snd.snd.fst, x.snd.snd.snd.snd.snd.snd.snd.snd.snd.snd.snd.snd.snd.snd.snd.fst, x.snd.snd.snd.snd.snd.snd.snd.snd.snd.snd.snd.snd.snd.snd.snd.snd.fst, x.snd.snd.snd.snd.snd.snd.snd.snd.snd.snd.snd.snd.snd.snd.snd.snd.snd.fst, x.snd.snd.snd.snd.snd.snd.snd.snd.snd.snd.snd.snd.snd.snd.snd.snd.snd.snd.fst, x.snd.snd.snd.snd.snd.snd.snd.snd.snd.snd.snd.snd.snd.snd.snd.snd.snd.snd.snd.fst, x.snd.snd.snd.snd.snd.snd.snd.snd.snd.snd.snd.snd.snd.snd.snd.snd.snd.snd.snd.snd.fst, x.snd.snd.snd.snd.snd.snd.snd.snd.snd.snd.snd.snd.snd.snd.snd.snd.snd.snd.snd.snd.snd.fst, ())
    else
     rec (x.fst, x.snd.fst, Go.IntKind.wrap Go.IntKind.i64 (x.snd.snd.fst + 1), x.snd.snd.snd.fst, x.snd.snd.snd.snd.fst, x.snd.snd.snd.snd.snd.fst, x.snd.snd.snd.snd.snd.snd.fst, x.snd.snd.snd.snd.snd.snd.snd.fst, x.snd.snd.snd.snd.snd.snd.snd.snd.fst, x.snd.snd.snd.snd.snd.snd.snd.snd.snd.fst, x.snd.snd.snd.snd.snd.snd.snd.snd.snd.snd.fst, x.snd.snd.snd.snd.snd.snd.snd.snd.snd.snd.snd.fst, x.snd.snd.snd.snd.snd.snd.snd.snd.snd.snd.snd.snd.fst, x.snd.snd.snd.snd.snd.snd.snd.snd.snd.snd.snd.snd.snd.fst, x.snd.snd.snd.snd.snd.snd.snd.snd.snd.snd.snd.snd.snd.snd.fst, x.snd.snd.snd.snd.snd.snd.snd.snd.snd.snd.snd.snd.snd.snd.snd.fst, x.snd.snd.snd.snd.snd.snd.snd.snd.snd.snd.snd.snd.snd.snd.snd.snd.fst, x.snd.snd.snd.snd.snd.snd.snd.snd.snd.snd.snd.snd.snd.snd.snd.snd.snd.fst, x.snd.snd.snd.snd.snd.snd.snd.snd.snd.snd.snd.snd.snd.snd.snd.snd.snd.snd.fst, x.snd.snd.snd.snd.snd.snd.snd.snd.snd.snd.snd.snd.snd.snd.snd.snd.snd.snd.snd.fst, x.snd.snd.snd.snd.snd.snd.snd.snd.snd.snd.snd.snd.snd.snd.snd.snd.snd.snd.snd.snd.fst, x.snd.snd.snd.snd.snd.snd.snd.snd.snd.snd.snd.snd.snd.snd.snd.snd.snd.snd.snd.snd.snd.fst, ())
  else
   none
 else
  some ((x.snd.snd.snd.fst, x.snd.snd.snd.snd.fst, x.snd.snd.snd.snd.snd.fst, x.snd.snd.snd.snd.snd.snd.fst, x.snd.snd.snd.snd.snd.snd.snd.fst, x.snd.snd.snd.snd.snd.snd.snd.snd.fst, x.snd.snd.snd.snd.snd.snd.snd.snd.snd.fst, x.snd.snd.snd.snd.snd.snd.snd.snd.snd.snd.fst, x.snd.snd.snd.snd.snd.snd.snd.snd.snd.snd.snd.snd.snd.snd.snd.snd.snd.snd.snd.snd.fst, x.snd.snd.snd.snd.snd.snd.snd.snd.snd.snd.snd.snd.snd.snd.snd.snd.snd.snd.snd.snd.snd.fst, x.snd.snd.snd.snd.snd.snd.snd.snd.snd.snd.snd.snd.snd.snd.snd.snd.snd.snd.snd.fst, ()))
 ) (100000000000000000000) (x)
def f21 (a0 : Int) (a1 : Int) (a2 : Int) (a3 : Int) (a4 : List Int) (a5 : List (Int × Int × Int × Int × Int × Int × Int × Int × Int × Int × Int)) (a6 : List (Int × Int × Int × Int)) (a7 : Int) (a8 : Int) (a9 : Int) (a10 : Int) (a11 : Int) : Option (Int × Int × Int × Int × Int × Int × Int × Int × List Int × List (Int × Int × Int × Int × Int × Int × Int × Int × Int × Int × Int) × List (Int × Int × Int × Int) × Unit) :=
 Option.bind (f27 a0 a1 a2 a3 a4 a5 a6 a7 a8 a9 a10) fun y0 =>
  f21.L1 ((a11, (↑(List.length y0.snd.snd.snd.snd.snd.snd.snd.snd.snd.snd.fst) : Int), 0, y0.fst, y0.snd.fst, y0.snd.snd.fst, y0.snd.snd.snd.fst, y0.snd.snd.snd.snd.fst, y0.snd.snd.snd.snd.snd.fst, y0.snd.snd.snd.snd.snd.snd.fst, y0.snd.snd.snd.snd.snd.snd.snd.fst, 0, 0, 0, 0, 0, 0, 0, 0, y0.snd.snd.snd.snd.snd.snd.snd.snd.snd.snd.fst, y0.snd.snd.snd.snd.snd.snd.snd.snd.fst, y0.snd.snd.snd.snd.snd.snd.snd.snd.snd.fst, ()))
def f21.ins : Shape := ⟨[(0, .agg [.int .i64, .int .i64, .int .i64, .int .i64, .row (.int .u8), .row (.prod (.int .i64) (.prod (.int .i64) (.prod (.int .i64) (.prod (.int .i64) (.prod (.int .i64) (.prod (.int .i64) (.prod (.int .i64) (.prod (.int .i64) (.prod (.int .i64) (.prod (.int .i64) (.int .i64))))))))))), .row (.prod (.int .i64) (.prod (.int .i64) (.prod (.int .i64) (.int .i64)))), .int .i64, .int .i64, .int .i64, .int .i64]), (1, .c (.int .i64))], []⟩
def f21.outs : List Shape := [⟨[(0, .agg [.int .i64, .int .i64, .int .i64, .int .i64, .own 0, .own 1, .own 2, .int .i64, .int .i64, .int .i64, .int .i64])], [(0, .arr (.int .u8)), (1, .arr (.prod (.int .i64) (.prod (.int .i64) (.prod (.int .i64) (.prod (.int .i64) (.prod (.int .i64) (.prod (.int .i64) (.prod (.int .i64) (.prod (.int .i64) (.prod (.int .i64) (.prod (.int .i64) (.int .i64)))))))))))), (2, .arr (.prod (.int .i64) (.prod (.int .i64) (.prod (.int .i64) (.int .i64)))))]⟩]
def f21.S : FnSpec := ⟨f21.ins, f21.outs, [], fun x => f21 x.1 x.2.1 x.2.2.1 x.2.2.2.1 x.2.2.2.2.1 x.2.2.2.2.2.1 x.2.2.2.2.2.2.1 x.2.2.2.2.2.2.2.1 x.2.2.2.2.2.2.2.2.1 x.2.2.2.2.2.2.2.2.2.1 x.2.2.2.2.2.2.2.2.2.2.1 x.2.2.2.2.2.2.2.2.2.2.2.1⟩
def f21.E (fuel : Nat) : Env := ⟨tisB, [(27, f27.S)], [], [], [(4, ⟨[(1, .c (.int .i64)), (2, .c (.ptr 0 0)), (4, .c (.ptr 1 0)), (10, .c (.own 2)), (11, .c (.int .i64)), (12, .c (.int .i64))], [(0, .box [.int .i64, .int .i64, .int .i64, .int .i64, .own 3, .own 4, .own 2, .int .i64, .int .i64, .int .i64, .int .i64]), (1, .box [.int .i64, .int .i64, .int .i64, .int .i64, .nils, .nils, .nils, .int .i64, .int .i64, .int .i64, .int .i64]), (2, .arr (.prod (.int .i64) (.prod (.int .i64) (.prod (.int .i64) (.int .i64))))), (3, .arr (.int .u8)), (4, .arr (.prod (.int .i64) (.prod (.int .i64) (.prod (.int .i64) (.prod (.int .i64) (.prod (.int .i64) (.prod (.int .i64) (.prod (.int .i64) (.prod (.int .i64) (.prod (.int .i64) (.prod (.int .i64) (.int .i64))))))))))))]⟩)], [], 0, [], fuel⟩
theorem f21.run : ∀ x, runFn (f21.E 100000000000000000000) Go.Proofs.Try.f21 ((Go.Proofs.Try.f21.body).getD .skip) f21.S x = f21.S.f x := by intro x; kernel_rfl
theorem f21.sound : Sound Go.Proofs.Try.prog 21 f21.S := sound_of_run (fun _ => f21.E 100000000000000000000) (by kernel_rfl) (by kernel_rfl) (by kernel_rfl) ordersB (fun _ => ⟨tisB_ok, EqsOk.nil _, (FnsOk.cons f27.sound FnsOk.nil)⟩) (fun _ => rfl) (by kernel_rfl) (by kernel_rfl) (fun x r h => (f21.run x).trans h)
/-! f8: adit/aditlaw7.GoodsPlaces -/
def f8.L1 (k0 : Int × List Int × Int × Int × Int × Int × Int × Int × Int × Int × Int × List Int × List (Int × Int × Int × Int × Int × Int × Int × Int × Int × Int × Int) × List (Int × Int × Int × Int) × Unit → Option (Int × Int × Int × Int × Int × Int × Int × Int × Int × List Int × List (Int × Int × Int × Int × Int × Int × Int × Int × Int × Int × Int) × List (Int × Int × Int × Int) × Unit ⊕ Bool × Unit)) (x : Int × List Int × Int × Int × Int × Int × Int × Int × Int × Int × Int × Int × Int × Int × Int × Int × Int × Int × Int × Int × Int × List Int × List (Int × Int × Int × Int × Int × Int × Int × Int × Int × Int × Int) × List (Int × Int × Int × Int) × List Int × List (Int × Int × Int × Int × Int × Int × Int × Int × Int × Int × Int) × List (Int × Int × Int × Int) × Unit) : Option (Int × Int × Int × Int × Int × Int × Int × Int × Int × List Int × List (Int × Int × Int × Int × Int × Int × Int × Int × Int × Int × Int) × List (Int × Int × Int × Int) × Unit ⊕ Bool × Unit) :=
 it (X := Int × List Int × Int × Int × Int × Int × Int × Int × Int × Int × Int × Int × Int × Int × Int × Int × Int × Int × Int × Int × Int × List Int × List (Int × Int × Int × Int × Int × Int × Int × Int × Int × Int × Int) × List (Int × Int × Int × Int) × List Int × List (Int × Int × Int × Int × Int × Int × Int × Int × Int × Int × Int) × List (Int × Int × Int × Int) × Unit) (fun rec x =>
 bif Decidable.decide (x.snd.snd.snd.snd.fst < (↑(List.length x.snd.snd.snd.snd.snd.snd.snd.snd.snd.snd.snd.snd.snd.snd.snd.snd.snd.snd.snd.snd.snd.snd.snd.fst) : Int)) then
  bif inRange x.snd.snd.snd.snd.fst (List.length x.snd.snd.snd.snd.snd.snd.snd.snd.snd.snd.snd.snd.snd.snd.snd.snd.snd.snd.snd.snd.snd.snd.snd.snd.snd.snd.fst) then
   bif inRange x.snd.snd.snd.snd.fst (List.length x.snd.snd.snd.snd.snd.snd.snd.snd.snd.snd.snd.snd.snd.snd.snd.snd.snd.snd.snd.snd.snd.snd.snd.fst) then
    bif !((List.getD x.snd.snd.snd.snd.snd.snd.snd.snd.snd.snd.snd.snd.snd.snd.snd.snd.snd.snd.snd.snd.snd.snd.snd.snd.snd.snd.fst (Int.toNat x.snd.snd.snd.snd.fst) (0, 0, 0, 0)).fst == (List.getD x.snd.snd.snd.snd.snd.snd.snd.snd.snd.snd.snd.snd.snd.snd.snd.snd.snd.snd.snd.snd.snd.snd.snd.fst (Int.toNat x.snd.snd.snd.snd.fst) (0, 0, 0, 0)).fst && ((List.getD x.snd.snd.snd.snd.snd.snd.snd.snd.snd.snd.snd.snd.snd.snd.snd.snd.snd.snd.snd.snd.snd.snd.snd.snd.snd.snd.fst (Int.toNat x.snd.snd.snd.snd.fst) (0, 0, 0, 0)).snd.fst == (List.getD x.snd.snd.snd.snd.snd.snd.snd.snd.snd.snd.snd.snd.snd.snd.snd.snd.snd.snd.snd.snd.snd.snd.snd.fst (Int.toNat x.snd.snd.snd.snd.fst) (0, 0, 0, 0)).snd.fst && ((List.getD x.snd.snd.snd.snd.snd.snd.snd.snd.snd.snd.snd.snd.snd.snd.snd.snd.snd.snd.snd.snd.snd.snd.snd.snd.snd.snd.fst (Int.toNat x.snd.snd.snd.snd.fst) (0, 0, 0, 0)).snd.snd.fst == (List.getD x.snd.snd.snd.snd.snd.snd.snd.snd.snd.snd.snd.snd.snd.snd.snd.snd.snd.snd.snd.snd.snd.snd.snd.fst (Int.toNat x.snd.snd.snd.snd.fst) (0, 0, 0, 0)).snd.snd.fst && ((List.getD x.snd.snd.snd.snd.snd.snd.snd.snd.snd.snd.snd.snd.snd.snd.snd.snd.snd.snd.snd.snd.snd.snd.snd.snd.snd.snd.fst (Int.toNat x.snd.snd.snd.snd.fst) (0, 0, 0, 0)).snd.snd.snd == (List.getD x.snd.snd.snd.snd.snd.snd.snd.snd.snd.snd.snd.snd.snd.snd.snd.snd.snd.snd.snd.snd.snd.snd.snd.fst (Int.toNat x.snd.snd.snd.snd.fst) (0, 0, 0, 0)).snd.snd.snd && Bool.true)))) then
     bif inRange x.snd.snd.snd.snd.fst (List.length x.snd.snd.snd.snd.snd.snd.snd.snd.snd.snd.snd.snd.snd.snd.snd.snd.snd.snd.snd.snd.snd.snd.snd.snd.snd.snd.fst) then
      bif inRange x.snd.snd.snd.snd.fst (List.length x.snd.snd.snd.snd.snd.snd.snd.snd.snd.snd.snd.snd.snd.snd.snd.snd.snd.snd.snd.snd.snd.snd.snd.fst) then
       bif (List.getD x.snd.snd.snd.snd.snd.snd.snd.snd.snd.snd.snd.snd.snd.snd.snd.snd.snd.snd.snd.snd.snd.snd.snd.snd.snd.snd.fst (Int.toNat x.snd.snd.snd.snd.fst) (0, 0, 0, 0)).fst != (List.getD x.snd.snd.snd.snd.snd.snd.snd.snd.snd.snd.snd.snd.snd.snd.snd.snd.snd.snd.snd.snd.snd.snd.snd.fst (Int.toNat x.snd.snd.snd.snd.fst) (0, 0, 0, 0)).fst then
        bif inRange x.snd.snd.snd.snd.fst (List.length x.snd.snd.snd.snd.snd.snd.snd.snd.snd.snd.snd.snd.snd.snd.snd.snd.snd.snd.snd.snd.snd.snd.snd.snd.snd.snd.fst) then
         bif !((List.getD x.snd.snd.snd.snd.snd.snd.snd.snd.snd.snd.snd.snd.snd.snd.snd.snd.snd.snd.snd.snd.snd.snd.snd.snd.snd.snd.fst (Int.toNat x.snd.snd.snd.snd.fst) (0, 0, 0, 0)).fst == 0 && ((List.getD x.snd.snd.snd.snd.snd.snd.snd.snd.snd.snd.snd.snd.snd.snd.snd.snd.snd.snd.snd.snd.snd.snd.snd.snd.snd.snd.fst (Int.toNat x.snd.snd.snd.snd.fst) (0, 0, 0, 0)).snd.fst == 0 && ((List.getD x.snd.snd.snd.snd.snd.snd.snd.snd.snd.snd.snd.snd.snd.snd.snd.snd.snd.snd.snd.snd.snd.snd.snd.snd.snd.snd.fst (Int.toNat x.snd.snd.snd.snd.fst) (0, 0, 0, 0)).snd.snd.fst == 0 && ((List.getD x.snd.snd.snd.snd.snd.snd.snd.snd.snd.snd.snd.snd.snd.snd.snd.snd.snd.snd.snd.snd.snd.snd.snd.snd.snd.snd.fst (Int.toNat x.snd.snd.snd.snd.fst) (0, 0, 0, 0)).snd.snd.snd == 0 && Bool.true)))) then
          some (Sum.inr (Bool.false, ()))
         else
          rec (x.fst, x.snd.fst, x.snd.snd.fst, Go.IntKind.wrap Go.IntKind.i64 (x.snd.snd.snd.fst + 1), Go.IntKind.wrap Go.IntKind.i64 (x.snd.snd.snd.snd.fst + 1), x.snd.snd.snd.snd.snd.fst, x.snd.snd.snd.snd.snd.snd.fst, x.snd.snd.snd.snd.snd.snd.snd.fst, x.snd.snd.snd.snd.snd.snd.snd.snd.fst, x.snd.snd.snd.snd.snd.snd.snd.snd.snd.fst, x.snd.snd.snd.snd.snd.snd.snd.snd.snd.snd.fst, x.snd.snd.snd.snd.snd.snd.snd.snd.snd.snd.snd.fst, x.snd.snd.snd.snd.snd.snd.snd.snd.snd.snd.snd.snd.fst, x.snd.snd.snd.snd.snd.snd.snd.snd.snd.snd.snd.snd.snd.fst, x.snd.snd.snd.snd.snd.snd.snd.snd.snd.snd.snd.snd.snd.snd.fst, x.snd.snd.snd.snd.snd.snd.snd.snd.snd.snd.snd.snd.snd.snd.snd.fst, x.snd.snd.snd.snd.snd.snd.snd.snd.snd.snd.snd.snd.snd.snd.snd.snd.fst, x.snd.snd.snd.snd.snd.snd.snd.snd.snd.snd.snd.snd.snd.snd.snd.snd.snd.fst, x.snd.snd.snd.snd.snd.snd.snd.snd.snd.snd.snd.snd.snd.snd.snd.snd.snd.snd.fst, x.snd.snd.snd.snd.snd.snd.snd.snd.snd.snd.snd.snd.snd.snd.snd.snd.snd.snd.snd.fst, x.snd.snd.snd.snd.snd.snd.snd.snd.snd.snd.snd.snd.snd.snd.snd.snd.snd.snd.snd.snd.fst, x.snd.snd.snd.snd.snd.snd.snd.snd.snd.snd.snd.snd.snd.snd.snd.snd.snd.snd.snd.snd.snd.fst, x.snd.snd.snd.snd.snd.snd.snd.snd.snd.snd.snd.snd.snd.snd.snd.snd.snd.snd.snd.snd.snd.snd.fst, x.snd.snd.snd.snd.snd.snd.snd.snd.snd.snd.snd.snd.snd.snd.snd.snd.snd.snd.snd.snd.snd.snd.snd.fst, x.snd.snd.snd.snd.snd.snd.snd.snd.snd.snd.snd.snd.snd.snd.snd.snd.snd.snd.snd.snd.snd.snd.snd.snd.fst, x.snd.snd.snd.snd.snd.snd.snd.snd.snd.snd.snd.snd.snd.snd.snd.snd.snd.snd.snd.snd.snd.snd.snd.snd.snd.fst, x.snd.snd.snd.snd.snd.snd.snd.snd.snd.snd.snd.snd.snd.snd.snd.snd.snd.snd.snd.snd.snd.snd.snd.snd.snd.snd.fst, ())
        else
         none
       else
        rec (x.fst, x.snd.fst, x.snd.snd.fst, Go.IntKind.wrap Go.IntKind.i64 (x.snd.snd.snd.fst + 1), Go.IntKind.wrap Go.IntKind.i64 (x.snd.snd.snd.snd.fst + 1), x.snd.snd.snd.snd.snd.fst, x.snd.snd.snd.snd.snd.snd.fst, x.snd.snd.snd.snd.snd.snd.snd.fst, x.snd.snd.snd.snd.snd.snd.snd.snd.fst, x.snd.snd.snd.snd.snd.snd.snd.snd.snd.fst, x.snd.snd.snd.snd.snd.snd.snd.snd.snd.snd.fst, x.snd.snd.snd.snd.snd.snd.snd.snd.snd.snd.snd.fst, x.snd.snd.snd.snd.snd.snd.snd.snd.snd.snd.snd.snd.fst, x.snd.snd.snd.snd.snd.snd.snd.snd.snd.snd.snd.snd.snd.fst, x.snd.snd.snd.snd.snd.snd.snd.snd.snd.snd.snd.snd.snd.snd.fst, x.snd.snd.snd.snd.snd.snd.snd.snd.snd.snd.snd.snd.snd.snd.snd.fst, x.snd.snd.snd.snd.snd.snd.snd.snd.snd.snd.snd.snd.snd.snd.snd.snd.fst, x.snd.snd.snd.snd.snd.snd.snd.snd.snd.snd.snd.snd.snd.snd.snd.snd.snd.fst, x.snd.snd.snd.snd.snd.snd.snd.snd.snd.snd.snd.snd.snd.snd.snd.snd.snd.snd.fst, x.snd.snd.snd.snd.snd.snd.snd.snd.snd.snd.snd.snd.snd.snd.snd.snd.snd.snd.snd.fst, x.snd.snd.snd.snd.snd.snd.snd.snd.snd.snd.snd.snd.snd.snd.snd.snd.snd.snd.snd.snd.fst, x.snd.snd.snd.snd.snd.snd.snd.snd.snd.snd.snd.snd.snd.snd.snd.snd.snd.snd.snd.snd.snd.fst, x.snd.snd.snd.snd.snd.snd.snd.snd.snd.snd.snd.snd.snd.snd.snd.snd.snd.snd.snd.snd.snd.snd.fst, x.snd.snd.snd.snd.snd.snd.snd.snd.snd.snd.snd.snd.snd.snd.snd.snd.snd.snd.snd.snd.snd.snd.snd.fst, x.snd.snd.snd.snd.snd.snd.snd.snd.snd.snd.snd.snd.snd.snd.snd.snd.snd.snd.snd.snd.snd.snd.snd.snd.fst, x.snd.snd.snd.snd.snd.snd.snd.snd.snd.snd.snd.snd.snd.snd.snd.snd.snd.snd.snd.snd.snd.snd.snd.snd.snd.fst, x.snd.snd.snd.snd.snd.snd.snd.snd.snd.snd.snd.snd.snd.snd.snd.snd.snd.snd.snd.snd.snd.snd.snd.snd.snd.snd.fst, ())
      else
       none
     else
      none
    else
     rec (x.fst, x.snd.fst, x.snd.snd.fst, x.snd.snd.snd.fst, Go.IntKind.wrap Go.IntKind.i64 (x.snd.snd.snd.snd.fst + 1), x.snd.snd.snd.snd.snd.fst, x.snd.snd.snd.snd.snd.snd.fst, x.snd.snd.snd.snd.snd.snd.snd.fst, x.snd.snd.snd.snd.snd.snd.snd.snd.fst, x.snd.snd.snd.snd.snd.snd.snd.snd.snd.fst, x.snd.snd.snd.snd.snd.snd.snd.snd.snd.snd.fst, x.snd.snd.snd.snd.snd.snd.snd.snd.snd.snd.snd.fst, x.snd.snd.snd.snd.snd.snd.snd.snd.snd.snd.snd.snd.fst, x.snd.snd.snd.snd.snd.snd.snd.snd.snd.snd.snd.snd.snd.fst, x.snd.snd.snd.snd.snd.snd.snd.snd.snd.snd.snd.snd.snd.snd.fst, x.snd.snd.snd.snd.snd.snd.snd.snd.snd.snd.snd.snd.snd.snd.snd.fst, x.snd.snd.snd.snd.snd.snd.snd.snd.snd.snd.snd.snd.snd.snd.snd.snd.fst, x.snd.snd.snd.snd.snd.snd.snd.snd.snd.snd.snd.snd.snd.snd.snd.snd.snd.fst, x.snd.snd.snd.snd.snd.snd.snd.snd.snd.snd.snd.snd.snd.snd.snd.snd.snd.snd.fst, x.snd.snd.snd.snd.snd.snd.snd.snd.snd.snd.snd.snd.snd.snd.snd.snd.snd.snd.snd.fst, x.snd.snd.snd.snd.snd.snd.snd.snd.snd.snd.snd.snd.snd.snd.snd.snd.snd.snd.snd.snd.fst, x.snd.snd.snd.snd.snd.snd.snd.snd.snd.snd.snd.snd.snd.snd.snd.snd.snd.snd.snd.snd.snd.fst, x.snd.snd.snd.snd.snd.snd.snd.snd.snd.snd.snd.snd.snd.snd.snd.snd.snd.snd.snd.snd.snd.snd.fst, x.snd.snd.snd.snd.snd.snd.snd.snd.snd.snd.snd.snd.snd.snd.snd.snd.snd.snd.snd.snd.snd.snd.snd.fst, x.snd.snd.snd.snd.snd.snd.snd.snd.snd.snd.snd.snd.snd.snd.snd.snd.snd.snd.snd.snd.snd.snd.snd.snd.fst, x.snd.snd.snd.snd.snd.snd.snd.snd.snd.snd.snd.snd.snd.snd.snd.snd.snd.snd.snd.snd.snd.snd.snd.snd.snd.fst, x.snd.snd.snd.snd.snd.snd.snd.snd.snd.snd.snd.snd.snd.snd.snd.snd.snd.snd.snd.snd.snd.snd.snd.snd.snd.snd.fst, ())
   else
    none
  else
   none
 else
  bif Decidable.decide (x.snd.snd.snd.fst > 2) then
   some (Sum.inr (Bool.false, ()))
  else
   k0 (x.fst, x.snd.fst, Go.IntKind.wrap Go.IntKind.i64 (x.snd.snd.fst + 1), x.snd.snd.snd.snd.snd.snd.snd.snd.snd.snd.snd.snd.snd.fst, x.snd.snd.snd.snd.snd.snd.snd.snd.snd.snd.snd.snd.snd.snd.fst, x.snd.snd.snd.snd.snd.snd.snd.snd.snd.snd.snd.snd.snd.snd.snd.fst, x.snd.snd.snd.snd.snd.snd.snd.snd.snd.snd.snd.snd.snd.snd.snd.snd.fst, x.snd.snd.snd.snd.snd.snd.snd.snd.snd.snd.snd.snd.snd.snd.snd.snd.snd.fst, x.snd.snd.snd.snd.snd.snd.snd.snd.snd.snd.snd.snd.snd.snd.snd.snd.snd.snd.fst, x.snd.snd.snd.snd.snd.snd.snd.snd.snd.snd.snd.snd.snd.snd.snd.snd.snd.snd.snd.fst, x.snd.snd.snd.snd.snd.snd.snd.snd.snd.snd.snd.snd.snd.snd.snd.snd.snd.snd.snd.snd.fst, x.snd.snd.snd.snd.snd.snd.snd.snd.snd.snd.snd.snd.snd.snd.snd.snd.snd.snd.snd.snd.snd.snd.snd.snd.fst, x.snd.snd.snd.snd.snd.snd.snd.snd.snd.snd.snd.snd.snd.snd.snd.snd.snd.snd.snd.snd.snd.snd.snd.snd.snd.fst, x.snd.snd.snd.snd.snd.snd.snd.snd.snd.snd.snd.snd.snd.snd.snd.snd.snd.snd.snd.snd.snd.snd.snd.snd.snd.snd.fst, ())
 ) (100000000000000000000) (x)
def f8.L2 (x : Int × List Int × Int × Int × Int × Int × Int × Int × Int × Int × Int × List Int × List (Int × Int × Int × Int × Int × Int × Int × Int × Int × Int × Int) × List (Int × Int × Int × Int) × Unit) : Option (Int × Int × Int × Int × Int × Int × Int × Int × Int × List Int × List (Int × Int × Int × Int × Int × Int × Int × Int × Int × Int × Int) × List (Int × Int × Int × Int) × Unit ⊕ Bool × Unit) :=
 it (X := Int × List Int × Int × Int × Int × Int × Int × Int × Int × Int × Int × List Int × List (Int × Int × Int × Int × Int × Int × Int × Int × Int × Int × Int) × List (Int × Int × Int × Int) × Unit) (fun rec x =>
 bif Decidable.decide (x.snd.snd.fst < (↑(List.length x.snd.fst) : Int)) then
  bif Decidable.decide (x.snd.snd.fst < 20) then
   bif inRange x.snd.snd.fst (List.length x.snd.fst) then
    Option.bind (f14 x.snd.snd.snd.fst x.snd.snd.snd.snd.fst x.snd.snd.snd.snd.snd.fst x.snd.snd.snd.snd.snd.snd.fst x.snd.snd.snd.snd.snd.snd.snd.snd.snd.snd.snd.fst x.snd.snd.snd.snd.snd.snd.snd.snd.snd.snd.snd.snd.fst x.snd.snd.snd.snd.snd.snd.snd.snd.snd.snd.snd.snd.snd.fst x.snd.snd.snd.snd.snd.snd.snd.fst x.snd.snd.snd.snd.snd.snd.snd.snd.fst x.snd.snd.snd.snd.snd.snd.snd.snd.snd.fst x.snd.snd.snd.snd.snd.snd.snd.snd.snd.snd.fst x.fst (List.getD x.snd.fst (Int.toNat x.snd.snd.fst) 0)) fun y0 =>
     Option.bind (f18 y0.fst y0.snd.fst y0.snd.snd.fst y0.snd.snd.snd.fst y0.snd.snd.snd.snd.snd.snd.snd.snd.fst y0.snd.snd.snd.snd.snd.snd.snd.snd.snd.fst y0.snd.snd.snd.snd.snd.snd.snd.snd.snd.snd.fst y0.snd.snd.snd.snd.fst y0.snd.snd.snd.snd.snd.fst y0.snd.snd.snd.snd.snd.snd.fst y0.snd.snd.snd.snd.snd.snd.snd.fst) fun y1 =>
      bif !y1.fst then
       some (Sum.inr (Bool.false, ()))
      else
       bif inRange x.fst 4 then
        bif Decidable.decide (List.getD [y0.snd.snd.snd.snd.fst, y0.snd.snd.snd.snd.snd.fst, y0.snd.snd.snd.snd.snd.snd.fst, y0.snd.snd.snd.snd.snd.snd.snd.fst] (Int.toNat x.fst) 0 < 0) then
         some (Sum.inr (Bool.false, ()))
        else
         bif inRange x.fst 4 then
          bif Decidable.decide (List.getD [y0.snd.snd.snd.snd.fst, y0.snd.snd.snd.snd.snd.fst, y0.snd.snd.snd.snd.snd.snd.fst, y0.snd.snd.snd.snd.snd.snd.snd.fst] (Int.toNat x.fst) 0 > 999) then
           some (Sum.inr (Bool.false, ()))
          else
           bif (↑(List.length y0.snd.snd.snd.snd.snd.snd.snd.snd.snd.snd.fst) : Int) != (↑(List.length x.snd.snd.snd.snd.snd.snd.snd.snd.snd.snd.snd.snd.snd.fst) : Int) then
            some (Sum.inr (Bool.false, ()))
           else
            f8.L1 rec ((x.fst, x.snd.fst, x.snd.snd.fst, 0, 0, x.snd.snd.snd.fst, x.snd.snd.snd.snd.fst, x.snd.snd.snd.snd.snd.fst, x.snd.snd.snd.snd.snd.snd.fst, x.snd.snd.snd.snd.snd.snd.snd.fst, x.snd.snd.snd.snd.snd.snd.snd.snd.fst, x.snd.snd.snd.snd.snd.snd.snd.snd.snd.fst, x.snd.snd.snd.snd.snd.snd.snd.snd.snd.snd.fst, y0.fst, y0.snd.fst, y0.snd.snd.fst, y0.snd.snd.snd.fst, y0.snd.snd.snd.snd.fst, y0.snd.snd.snd.snd.snd.fst, y0.snd.snd.snd.snd.snd.snd.fst, y0.snd.snd.snd.snd.snd.snd.snd.fst, x.snd.snd.snd.snd.snd.snd.snd.snd.snd.snd.snd.fst, x.snd.snd.snd.snd.snd.snd.snd.snd.snd.snd.snd.snd.fst, x.snd.snd.snd.snd.snd.snd.snd.snd.snd.snd.snd.snd.snd.fst, y0.snd.snd.snd.snd.snd.snd.snd.snd.fst, y0.snd.snd.snd.snd.snd.snd.snd.snd.snd.fst, y0.snd.snd.snd.snd.snd.snd.snd.snd.snd.snd.fst, ()))
         else
          none
       else
        none
   else
    none
  else
   some (Sum.inl (x.fst, x.snd.snd.snd.fst, x.snd.snd.snd.snd.fst, x.snd.snd.snd.snd.snd.fst, x.snd.snd.snd.snd.snd.snd.fst, x.snd.snd.snd.snd.snd.snd.snd.fst, x.snd.snd.snd.snd.snd.snd.snd.snd.fst, x.snd.snd.snd.snd.snd.snd.snd.snd.snd.fst, x.snd.snd.snd.snd.snd.snd.snd.snd.snd.snd.fst, x.snd.snd.snd.snd.snd.snd.snd.snd.snd.snd.snd.fst, x.snd.snd.snd.snd.snd.snd.snd.snd.snd.snd.snd.snd.fst, x.snd.snd.snd.snd.snd.snd.snd.snd.snd.snd.snd.snd.snd.fst, ()))
 else
  some (Sum.inl (x.fst, x.snd.snd.snd.fst, x.snd.snd.snd.snd.fst, x.snd.snd.snd.snd.snd.fst, x.snd.snd.snd.snd.snd.snd.fst, x.snd.snd.snd.snd.snd.snd.snd.fst, x.snd.snd.snd.snd.snd.snd.snd.snd.fst, x.snd.snd.snd.snd.snd.snd.snd.snd.snd.fst, x.snd.snd.snd.snd.snd.snd.snd.snd.snd.snd.fst, x.snd.snd.snd.snd.snd.snd.snd.snd.snd.snd.snd.fst, x.snd.snd.snd.snd.snd.snd.snd.snd.snd.snd.snd.snd.fst, x.snd.snd.snd.snd.snd.snd.snd.snd.snd.snd.snd.snd.snd.fst, ()))
 ) (100000000000000000000) (x)
def f8.L3 (x : Int × Int × Int × Int × Int × Int × Int × Int × Int × Int × List Int × List (Int × Int × Int × Int × Int × Int × Int × Int × Int × Int × Int) × List (Int × Int × Int × Int) × Unit) : Option (Bool × Unit) :=
 it (X := Int × Int × Int × Int × Int × Int × Int × Int × Int × Int × List Int × List (Int × Int × Int × Int × Int × Int × Int × Int × Int × Int × Int) × List (Int × Int × Int × Int) × Unit) (fun rec x =>
 bif Decidable.decide (x.snd.fst < (↑(List.length x.snd.snd.snd.snd.snd.snd.snd.snd.snd.snd.snd.snd.fst) : Int)) then
  bif inRange x.snd.fst (List.length x.snd.snd.snd.snd.snd.snd.snd.snd.snd.snd.snd.snd.fst) then
   bif (List.getD x.snd.snd.snd.snd.snd.snd.snd.snd.snd.snd.snd.snd.fst (Int.toNat x.snd.fst) (0, 0, 0, 0)).snd.fst == 2 then
    bif inRange x.snd.fst (List.length x.snd.snd.snd.snd.snd.snd.snd.snd.snd.snd.snd.snd.fst) then
     bif (List.getD x.snd.snd.snd.snd.snd.snd.snd.snd.snd.snd.snd.snd.fst (Int.toNat x.snd.fst) (0, 0, 0, 0)).snd.snd.fst == x.fst then
      some ((Bool.false, ()))
     else
      rec (x.fst, Go.IntKind.wrap Go.IntKind.i64 (x.snd.fst + 1), x.snd.snd.fst, x.snd.snd.snd.fst, x.snd.snd.snd.snd.fst, x.snd.snd.snd.snd.snd.fst, x.snd.snd.snd.snd.snd.snd.fst, x.snd.snd.snd.snd.snd.snd.snd.fst, x.snd.snd.snd.snd.snd.snd.snd.snd.fst, x.snd.snd.snd.snd.snd.snd.snd.snd.snd.fst, x.snd.snd.snd.snd.snd.snd.snd.snd.snd.snd.fst, x.snd.snd.snd.snd.snd.snd.snd.snd.snd.snd.snd.fst, x.snd.snd.snd.snd.snd.snd.snd.snd.snd.snd.snd.snd.fst, ())
    else
     none
   else
    bif inRange x.snd.fst (List.length x.snd.snd.snd.snd.snd.snd.snd.snd.snd.snd.snd.snd.fst) then
     bif (List.getD x.snd.snd.snd.snd.snd.snd.snd.snd.snd.snd.snd.snd.fst (Int.toNat x.snd.fst) (0, 0, 0, 0)).snd.fst == 3 then
      bif inRange x.snd.fst (List.length x.snd.snd.snd.snd.snd.snd.snd.snd.snd.snd.snd.snd.fst) then
       bif (List.getD x.snd.snd.snd.snd.snd.snd.snd.snd.snd.snd.snd.snd.fst (Int.toNat x.snd.fst) (0, 0, 0, 0)).snd.snd.fst == x.fst then
        some ((Bool.false, ()))
       else
        rec (x.fst, Go.IntKind.wrap Go.IntKind.i64 (x.snd.fst + 1), x.snd.snd.fst, x.snd.snd.snd.fst, x.snd.snd.snd.snd.fst, x.snd.snd.snd.snd.snd.fst, x.snd.snd.snd.snd.snd.snd.fst, x.snd.snd.snd.snd.snd.snd.snd.fst, x.snd.snd.snd.snd.snd.snd.snd.snd.fst, x.snd.snd.snd.snd.snd.snd.snd.snd.snd.fst, x.snd.snd.snd.snd.snd.snd.snd.snd.snd.snd.fst, x.snd.snd.snd.snd.snd.snd.snd.snd.snd.snd.snd.fst, x.snd.snd.snd.snd.snd.snd.snd.snd.snd.snd.snd.snd.fst, ())
      else
       none
     else
      rec (x.fst, Go.IntKind.wrap Go.IntKind.i64 (x.snd.fst + 1), x.snd.snd.fst, x.snd.snd.snd.fst, x.snd.snd.snd.snd.fst, x.snd.snd.snd.snd.snd.fst, x.snd.snd.snd.snd.snd.snd.fst, x.snd.snd.snd.snd.snd.snd.snd.fst, x.snd.snd.snd.snd.snd.snd.snd.snd.fst, x.snd.snd.snd.snd.snd.snd.snd.snd.snd.fst, x.snd.snd.snd.snd.snd.snd.snd.snd.snd.snd.fst, x.snd.snd.snd.snd.snd.snd.snd.snd.snd.snd.snd.fst, x.snd.snd.snd.snd.snd.snd.snd.snd.snd.snd.snd.snd.fst, ())
    else
     none
  else
   none
 else
  Option.bind (f18 x.snd.snd.fst x.snd.snd.snd.fst x.snd.snd.snd.snd.fst x.snd.snd.snd.snd.snd.fst x.snd.snd.snd.snd.snd.snd.snd.snd.snd.snd.fst x.snd.snd.snd.snd.snd.snd.snd.snd.snd.snd.snd.fst x.snd.snd.snd.snd.snd.snd.snd.snd.snd.snd.snd.snd.fst x.snd.snd.snd.snd.snd.snd.fst x.snd.snd.snd.snd.snd.snd.snd.fst x.snd.snd.snd.snd.snd.snd.snd.snd.fst x.snd.snd.snd.snd.snd.snd.snd.snd.snd.fst) fun y0 =>
   some ((y0.fst, ()))
 ) (100000000000000000000) (x)
def f8 (a0 : Int) (a1 : Int) (a2 : Int) (a3 : Int) (a4 : List (Int × Int × Int × Int)) (a5 : Int) (a6 : List Int) : Option (Bool × Unit) :=
 Option.bind (f10) fun y0 =>
  bif !y0.fst then
   some ((Bool.false, ()))
  else
   Option.bind (f11 a0 a1 a2 a3 a4 a5) fun y1 =>
    Option.bind (f18 y1.fst y1.snd.fst y1.snd.snd.fst y1.snd.snd.snd.fst y1.snd.snd.snd.snd.snd.snd.snd.snd.fst y1.snd.snd.snd.snd.snd.snd.snd.snd.snd.fst y1.snd.snd.snd.snd.snd.snd.snd.snd.snd.snd.fst y1.snd.snd.snd.snd.fst y1.snd.snd.snd.snd.snd.fst y1.snd.snd.snd.snd.snd.snd.fst y1.snd.snd.snd.snd.snd.snd.snd.fst) fun y2 =>
     bif !y2.fst then
      some ((Bool.false, ()))
     else
      Option.bind (f12 a2 4) fun y3 =>
       Option.bind (α := Int × Int × Int × Int × Int × Int × Int × Int × Int × List Int × List (Int × Int × Int × Int × Int × Int × Int × Int × Int × Int × Int) × List (Int × Int × Int × Int) × Unit ⊕ Bool × Unit) (
        f8.L2 ((y3.fst, a6, 0, y1.fst, y1.snd.fst, y1.snd.snd.fst, y1.snd.snd.snd.fst, y1.snd.snd.snd.snd.fst, y1.snd.snd.snd.snd.snd.fst, y1.snd.snd.snd.snd.snd.snd.fst, y1.snd.snd.snd.snd.snd.snd.snd.fst, y1.snd.snd.snd.snd.snd.snd.snd.snd.fst, y1.snd.snd.snd.snd.snd.snd.snd.snd.snd.fst, y1.snd.snd.snd.snd.snd.snd.snd.snd.snd.snd.fst, ()))
       ) fun y4 =>
        Sum.elim (fun y5 =>
         Option.bind (f21 y5.snd.fst y5.snd.snd.fst y5.snd.snd.snd.fst y5.snd.snd.snd.snd.fst y5.snd.snd.snd.snd.snd.snd.snd.snd.snd.fst y5.snd.snd.snd.snd.snd.snd.snd.snd.snd.snd.fst y5.snd.snd.snd.snd.snd.snd.snd.snd.snd.snd.snd.fst y5.snd.snd.snd.snd.snd.fst y5.snd.snd.snd.snd.snd.snd.fst y5.snd.snd.snd.snd.snd.snd.snd.fst y5.snd.snd.snd.snd.snd.snd.snd.snd.fst y5.fst) fun y7 =>
          f8.L3 ((y5.fst, 0, y7.fst, y7.snd.fst, y7.snd.snd.fst, y7.snd.snd.snd.fst, y7.snd.snd.snd.snd.fst, y7.snd.snd.snd.snd.snd.fst, y7.snd.snd.snd.snd.snd.snd.fst, y7.snd.snd.snd.snd.snd.snd.snd.fst, y7.snd.snd.snd.snd.snd.snd.snd.snd.fst, y7.snd.snd.snd.snd.snd.snd.snd.snd.snd.fst, y7.snd.snd.snd.snd.snd.snd.snd.snd.snd.snd.fst, ()))
        ) (fun z6 =>
         some (z6)
        ) (y4)
def f8.ins : Shape := ⟨[(0, .c (.int .i64)), (1, .c (.int .i64)), (2, .c (.int .i64)), (3, .c (.int .i64)), (4, .c (.row (.prod (.int .i64) (.prod (.int .i64) (.prod (.int .i64) (.int .i64)))))), (5, .c (.int .i64)), (6, .c (.row (.int .i64)))], []⟩
def f8.outs : List Shape := [⟨[(0, .c (.bool))], []⟩]
def f8.S : FnSpec := ⟨f8.ins, f8.outs, [], fun x => f8 x.1 x.2.1 x.2.2.1 x.2.2.2.1 x.2.2.2.2.1 x.2.2.2.2.2.1 x.2.2.2.2.2.2.1⟩
def f8.E (fuel : Nat) : Env := ⟨tisB, [(12, f12.S), (11, f11.S), (14, f14.S), (18, f18.S), (10, f10.S), (21, f21.S)], [(38, [.int .i64, .int .i64, .int .i64, .int .i64])], [(25, ⟨[(2, .c (.int .i64)), (15, .c (.ptr 0 0))], [(0, .box [.int .i64, .int .i64, .int .i64, .int .i64, .own 1, .own 2, .own 3, .int .i64, .int .i64, .int .i64, .int .i64]), (1, .arr (.int .u8)), (2, .arr (.prod (.int .i64) (.prod (.int .i64) (.prod (.int .i64) (.prod (.int .i64) (.prod (.int .i64) (.prod (.int .i64) (.prod (.int .i64) (.prod (.int .i64) (.prod (.int .i64) (.prod (.int .i64) (.int .i64)))))))))))), (3, .arr (.prod (.int .i64) (.prod (.int .i64) (.prod (.int .i64) (.int .i64)))))]⟩)], [(9, ⟨[(2, .c (.int .i64)), (6, .c (.row (.int .i64))), (15, .c (.ptr 0 0)), (16, .c (.int .i64))], [(0, .box [.int .i64, .int .i64, .int .i64, .int .i64, .own 1, .own 2, .own 3, .int .i64, .int .i64, .int .i64, .int .i64]), (1, .arr (.int .u8)), (2, .arr (.prod (.int .i64) (.prod (.int .i64) (.prod (.int .i64) (.prod (.int .i64) (.prod (.int .i64) (.prod (.int .i64) (.prod (.int .i64) (.prod (.int .i64) (.prod (.int .i64) (.prod (.int .i64) (.int .i64)))))))))))), (3, .arr (.prod (.int .i64) (.prod (.int .i64) (.prod (.int .i64) (.int .i64)))))]⟩), (16, ⟨[(2, .c (.int .i64)), (6, .c (.row (.int .i64))), (15, .c (.ptr 0 0)), (16, .c (.int .i64)), (17, .c (.ptr 1 0)), (18, .c (.int .i64)), (19, .c (.int .i64))], [(0, .box [.int .i64, .int .i64, .int .i64, .int .i64, .own 2, .own 3, .own 4, .int .i64, .int .i64, .int .i64, .int .i64]), (1, .box [.int .i64, .int .i64, .int .i64, .int .i64, .own 5, .own 6, .own 7, .int .i64, .int .i64, .int .i64, .int .i64]), (2, .arr (.int .u8)), (3, .arr (.prod (.int .i64) (.prod (.int .i64) (.prod (.int .i64) (.prod (.int .i64) (.prod (.int .i64) (.prod (.int .i64) (.prod (.int .i64) (.prod (.int .i64) (.prod (.int .i64) (.prod (.int .i64) (.int .i64)))))))))))), (4, .arr (.prod (.int .i64) (.prod (.int .i64) (.prod (.int .i64) (.int .i64))))), (5, .arr (.int .u8)), (6, .arr (.prod (.int .i64) (.prod (.int .i64) (.prod (.int .i64) (.prod (.int .i64) (.prod (.int .i64) (.prod (.int .i64) (.prod (.int .i64) (.prod (.int .i64) (.prod (.int .i64) (.prod (.int .i64) (.int .i64)))))))))))), (7, .arr (.prod (.int .i64) (.prod (.int .i64) (.prod (.int .i64) (.int .i64)))))]⟩), (27, ⟨[(2, .c (.int .i64)), (15, .c (.ptr 0 0)), (20, .c (.int .i64))], [(0, .box [.int .i64, .int .i64, .int .i64, .int .i64, .own 1, .own 2, .own 3, .int .i64, .int .i64, .int .i64, .int .i64]), (1, .arr (.int .u8)), (2, .arr (.prod (.int .i64) (.prod (.int .i64) (.prod (.int .i64) (.prod (.int .i64) (.prod (.int .i64) (.prod (.int .i64) (.prod (.int .i64) (.prod (.int .i64) (.prod (.int .i64) (.prod (.int .i64) (.int .i64)))))))))))), (3, .arr (.prod (.int .i64) (.prod (.int .i64) (.prod (.int .i64) (.int .i64)))))]⟩)], [], 0, [], fuel⟩
theorem f8.run : ∀ x, runFn (f8.E 100000000000000000000) Go.Proofs.Try.f8 ((Go.Proofs.Try.f8.body).getD .skip) f8.S x = f8.S.f x := by intro x; kernel_rfl
theorem f8.sound : Sound Go.Proofs.Try.prog 8 f8.S := sound_of_run (fun _ => f8.E 100000000000000000000) (by kernel_rfl) (by kernel_rfl) (by kernel_rfl) ordersB (fun _ => ⟨tisB_ok, (EqsOk.cons eqB38 (EqsOk.nil _)), (FnsOk.cons f12.sound (FnsOk.cons f11.sound (FnsOk.cons f14.sound (FnsOk.cons f18.sound (FnsOk.cons f10.sound (FnsOk.cons f21.sound FnsOk.nil))))))⟩) (fun _ => rfl) (by kernel_rfl) (by kernel_rfl) (fun x r h => (f8.run x).trans h)
/-! f22: adit/goods.Bonus -/
def f22 (a0 : Int) (a1 : Int) (a2 : Int) (a3 : Int) (a4 : List Int) (a5 : List (Int × Int × Int × Int × Int × Int × Int × Int × Int × Int × Int)) (a6 : List (Int × Int × Int × Int)) (a7 : Int) (a8 : Int) (a9 : Int) (a10 : Int) (a11 : Int) : Option (Int × Int × Unit) :=
 Option.bind (α := Int × Int × Int × Int × Int × Int × Int × List Int × List (Int × Int × Int × Int × Int × Int × Int × Int × Int × Int × Int) × List (Int × Int × Int × Int) × Int × Int × Int × Int × Unit ⊕ Int × Int × Unit) (
  Option.bind (f32 a0 a1 a2 a3 a4 a5 a6 a7 a8 a9 a10 3 a11 0) fun y7 =>
   bif Decidable.decide (y7.fst ≥ 0) then
    some (Sum.inl (a11, 3, 0, a0, a1, a2, a3, a4, a5, a6, a7, a8, a9, a10, ()))
   else
    some (Sum.inl (a11, 0, 0, a0, a1, a2, a3, a4, a5, a6, a7, a8, a9, a10, ()))
 ) fun y0 =>
  Sum.elim (fun y1 =>
   Option.bind (α := Int × Int × Unit ⊕ Int × Int × Unit) (
    Option.bind (f32 y1.snd.snd.snd.fst y1.snd.snd.snd.snd.fst y1.snd.snd.snd.snd.snd.fst y1.snd.snd.snd.snd.snd.snd.fst y1.snd.snd.snd.snd.snd.snd.snd.fst y1.snd.snd.snd.snd.snd.snd.snd.snd.fst y1.snd.snd.snd.snd.snd.snd.snd.snd.snd.fst y1.snd.snd.snd.snd.snd.snd.snd.snd.snd.snd.fst y1.snd.snd.snd.snd.snd.snd.snd.snd.snd.snd.snd.fst y1.snd.snd.snd.snd.snd.snd.snd.snd.snd.snd.snd.snd.fst y1.snd.snd.snd.snd.snd.snd.snd.snd.snd.snd.snd.snd.snd.fst 3 y1.fst 1) fun y6 =>
     bif Decidable.decide (y6.fst ≥ 0) then
      some (Sum.inl (y1.snd.fst, 2, ()))
     else
      some (Sum.inl (y1.snd.fst, y1.snd.snd.fst, ()))
   ) fun y3 =>
    Sum.elim (fun y4 =>
     some ((y4.fst, y4.snd.fst, ()))
    ) (fun z5 =>
     some (z5)
    ) (y3)
  ) (fun z2 =>
   some (z2)
  ) (y0)
def f22.ins : Shape := ⟨[(0, .agg [.int .i64, .int .i64, .int .i64, .int .i64, .row (.int .u8), .row (.prod (.int .i64) (.prod (.int .i64) (.prod (.int .i64) (.prod (.int .i64) (.prod (.int .i64) (.prod (.int .i64) (.prod (.int .i64) (.prod (.int .i64) (.prod (.int .i64) (.prod (.int .i64) (.int .i64))))))))))), .row (.prod (.int .i64) (.prod (.int .i64) (.prod (.int .i64) (.int .i64)))), .int .i64, .int .i64, .int .i64, .int .i64]), (1, .c (.int .i64))], []⟩
def f22.outs : List Shape := [⟨[(0, .c (.int .i64)), (1, .c (.int .i64))], []⟩]
def f22.S : FnSpec := ⟨f22.ins, f22.outs, [], fun x => f22 x.1 x.2.1 x.2.2.1 x.2.2.2.1 x.2.2.2.2.1 x.2.2.2.2.2.1 x.2.2.2.2.2.2.1 x.2.2.2.2.2.2.2.1 x.2.2.2.2.2.2.2.2.1 x.2.2.2.2.2.2.2.2.2.1 x.2.2.2.2.2.2.2.2.2.2.1 x.2.2.2.2.2.2.2.2.2.2.2.1⟩
def f22.E (fuel : Nat) : Env := ⟨tisB, [(32, f32.S)], [], [(5, ⟨[(1, .c (.int .i64)), (2, .c (.ptr 0 0)), (6, .c (.int .i64)), (7, .c (.int .i64))], [(0, .box [.int .i64, .int .i64, .int .i64, .int .i64, .row (.int .u8), .row (.prod (.int .i64) (.prod (.int .i64) (.prod (.int .i64) (.prod (.int .i64) (.prod (.int .i64) (.prod (.int .i64) (.prod (.int .i64) (.prod (.int .i64) (.prod (.int .i64) (.prod (.int .i64) (.int .i64))))))))))), .row (.prod (.int .i64) (.prod (.int .i64) (.prod (.int .i64) (.int .i64)))), .int .i64, .int .i64, .int .i64, .int .i64])]⟩), (7, ⟨[(6, .c (.int .i64)), (7, .c (.int .i64))], []⟩)], [], [], 0, [], fuel⟩
theorem f22.run : ∀ x, runFn (f22.E 100000000000000000000) Go.Proofs.Try.f22 ((Go.Proofs.Try.f22.body).getD .skip) f22.S x = f22.S.f x := by intro x; kernel_rfl
theorem f22.sound : Sound Go.Proofs.Try.prog 22 f22.S := sound_of_run (fun _ => f22.E 100000000000000000000) (by kernel_rfl) (by kernel_rfl) (by kernel_rfl) ordersB (fun _ => ⟨tisB_ok, EqsOk.nil _, (FnsOk.cons f32.sound FnsOk.nil)⟩) (fun _ => rfl) (by kernel_rfl) (by kernel_rfl) (fun x r h => (f22.run x).trans h)
/-! f9: adit/aditlaw7.GoodsWears -/
def f9 (a0 : Int) (a1 : Bool) (a2 : Int) (a3 : Bool) : Option (Bool × Unit) :=
 Option.bind (f10) fun y0 =>
  bif !y0.fst then
   some ((Bool.false, ()))
  else
   Option.bind (f11 a0 0 0 1 [] 0) fun y1 =>
    Option.bind (f12 a2 4) fun y2 =>
     Option.bind (α := Bool × Int × Bool × Int × Int × Int × Int × Int × Int × Int × Int × Int × Int × Int × Int × List Int × List (Int × Int × Int × Int × Int × Int × Int × Int × Int × Int × Int) × List (Int × Int × Int × Int) × Unit ⊕ Bool × Unit) (
      bif a1 then
       some (Sum.inl (a1, y2.fst, a3, y1.fst, y1.snd.fst, y1.snd.snd.fst, y1.snd.snd.snd.fst, y1.snd.snd.snd.snd.fst, y1.snd.snd.snd.snd.snd.fst, y1.snd.snd.snd.snd.snd.snd.fst, y1.snd.snd.snd.snd.snd.snd.snd.fst, 3, 2, 0, y2.fst, y1.snd.snd.snd.snd.snd.snd.snd.snd.fst, y1.snd.snd.snd.snd.snd.snd.snd.snd.snd.fst, y1.snd.snd.snd.snd.snd.snd.snd.snd.snd.snd.fst, ()))
      else
       some (Sum.inl (a1, y2.fst, a3, y1.fst, y1.snd.fst, y1.snd.snd.fst, y1.snd.snd.snd.fst, y1.snd.snd.snd.snd.fst, y1.snd.snd.snd.snd.snd.fst, y1.snd.snd.snd.snd.snd.snd.fst, y1.snd.snd.snd.snd.snd.snd.snd.fst, 2, 2, 0, y2.fst, y1.snd.snd.snd.snd.snd.snd.snd.snd.fst, y1.snd.snd.snd.snd.snd.snd.snd.snd.snd.fst, y1.snd.snd.snd.snd.snd.snd.snd.snd.snd.snd.fst, ()))
     ) fun y3 =>
      Sum.elim (fun y4 =>
       bif inRange 5 (List.length y4.snd.snd.snd.snd.snd.snd.snd.snd.snd.snd.snd.snd.snd.snd.snd.snd.snd.fst) then
        Option.bind (α := Bool × Int × Bool × Int × Int × Int × Int × Int × Int × Int × Int × List Int × List (Int × Int × Int × Int × Int × Int × Int × Int × Int × Int × Int) × List (Int × Int × Int × Int) × Unit ⊕ Bool × Unit) (
         bif y4.snd.snd.fst then
          let s0 : List (Int × Int × Int × Int) := List.set y4.snd.snd.snd.snd.snd.snd.snd.snd.snd.snd.snd.snd.snd.snd.snd.snd.snd.fst 5 (y4.snd.snd.snd.snd.snd.snd.snd.snd.snd.snd.snd.fst, y4.snd.snd.snd.snd.snd.snd.snd.snd.snd.snd.snd.snd.fst, y4.snd.snd.snd.snd.snd.snd.snd.snd.snd.snd.snd.snd.snd.fst, y4.snd.snd.snd.snd.snd.snd.snd.snd.snd.snd.snd.snd.snd.snd.fst)
          bif inRange 9 (List.length s0) then
           let s1 : List (Int × Int × Int × Int) := List.set s0 9 (y4.snd.snd.snd.snd.snd.snd.snd.snd.snd.snd.snd.fst, 3, 0, Go.IntKind.wrap Go.IntKind.i64 (y4.snd.snd.snd.snd.snd.snd.snd.snd.snd.snd.snd.fst - 2))
           some (Sum.inl (y4.fst, y4.snd.fst, y4.snd.snd.fst, y4.snd.snd.snd.fst, y4.snd.snd.snd.snd.fst, y4.snd.snd.snd.snd.snd.fst, y4.snd.snd.snd.snd.snd.snd.fst, y4.snd.snd.snd.snd.snd.snd.snd.fst, y4.snd.snd.snd.snd.snd.snd.snd.snd.fst, y4.snd.snd.snd.snd.snd.snd.snd.snd.snd.fst, y4.snd.snd.snd.snd.snd.snd.snd.snd.snd.snd.fst, y4.snd.snd.snd.snd.snd.snd.snd.snd.snd.snd.snd.snd.snd.snd.snd.fst, y4.snd.snd.snd.snd.snd.snd.snd.snd.snd.snd.snd.snd.snd.snd.snd.snd.fst, s1, ()))
          else
           none
         else
          let s0 : List (Int × Int × Int × Int) := List.set y4.snd.snd.snd.snd.snd.snd.snd.snd.snd.snd.snd.snd.snd.snd.snd.snd.snd.fst 5 (y4.snd.snd.snd.snd.snd.snd.snd.snd.snd.snd.snd.fst, y4.snd.snd.snd.snd.snd.snd.snd.snd.snd.snd.snd.snd.fst, y4.snd.snd.snd.snd.snd.snd.snd.snd.snd.snd.snd.snd.snd.fst, y4.snd.snd.snd.snd.snd.snd.snd.snd.snd.snd.snd.snd.snd.snd.fst)
          some (Sum.inl (y4.fst, y4.snd.fst, y4.snd.snd.fst, y4.snd.snd.snd.fst, y4.snd.snd.snd.snd.fst, y4.snd.snd.snd.snd.snd.fst, y4.snd.snd.snd.snd.snd.snd.fst, y4.snd.snd.snd.snd.snd.snd.snd.fst, y4.snd.snd.snd.snd.snd.snd.snd.snd.fst, y4.snd.snd.snd.snd.snd.snd.snd.snd.snd.fst, y4.snd.snd.snd.snd.snd.snd.snd.snd.snd.snd.fst, y4.snd.snd.snd.snd.snd.snd.snd.snd.snd.snd.snd.snd.snd.snd.snd.fst, y4.snd.snd.snd.snd.snd.snd.snd.snd.snd.snd.snd.snd.snd.snd.snd.snd.fst, s0, ()))
        ) fun y6 =>
         Sum.elim (fun y7 =>
          Option.bind (f14 y7.snd.snd.snd.fst y7.snd.snd.snd.snd.fst y7.snd.snd.snd.snd.snd.fst y7.snd.snd.snd.snd.snd.snd.fst y7.snd.snd.snd.snd.snd.snd.snd.snd.snd.snd.snd.fst y7.snd.snd.snd.snd.snd.snd.snd.snd.snd.snd.snd.snd.fst y7.snd.snd.snd.snd.snd.snd.snd.snd.snd.snd.snd.snd.snd.fst y7.snd.snd.snd.snd.snd.snd.snd.fst y7.snd.snd.snd.snd.snd.snd.snd.snd.fst y7.snd.snd.snd.snd.snd.snd.snd.snd.snd.fst y7.snd.snd.snd.snd.snd.snd.snd.snd.snd.snd.fst 0 7) fun y9 =>
           Option.bind (f22 y9.fst y9.snd.fst y9.snd.snd.fst y9.snd.snd.snd.fst y9.snd.snd.snd.snd.snd.snd.snd.snd.fst y9.snd.snd.snd.snd.snd.snd.snd.snd.snd.fst y9.snd.snd.snd.snd.snd.snd.snd.snd.snd.snd.fst y9.snd.snd.snd.snd.fst y9.snd.snd.snd.snd.snd.fst y9.snd.snd.snd.snd.snd.snd.fst y9.snd.snd.snd.snd.snd.snd.snd.fst 0) fun y10 =>
            bif inRange 5 (List.length y9.snd.snd.snd.snd.snd.snd.snd.snd.snd.snd.fst) then
             bif (List.getD y9.snd.snd.snd.snd.snd.snd.snd.snd.snd.snd.fst 5 (0, 0, 0, 0)).snd.fst != 3 then
              some ((Bool.false, ()))
             else
              bif (y10.fst == 3) == y7.fst then
               some ((Bool.false, ()))
              else
               bif !(y10.snd.fst == 2) == y7.fst then
                some ((Bool.false, ()))
               else
                Option.bind (f14 y9.fst y9.snd.fst y9.snd.snd.fst y9.snd.snd.snd.fst y9.snd.snd.snd.snd.snd.snd.snd.snd.fst y9.snd.snd.snd.snd.snd.snd.snd.snd.snd.fst y9.snd.snd.snd.snd.snd.snd.snd.snd.snd.snd.fst y9.snd.snd.snd.snd.fst y9.snd.snd.snd.snd.snd.fst y9.snd.snd.snd.snd.snd.snd.fst y9.snd.snd.snd.snd.snd.snd.snd.fst 0 7) fun y11 =>
                 bif !y7.snd.snd.fst then
                  Option.bind (f15 y11.fst y11.snd.fst y11.snd.snd.fst y11.snd.snd.snd.fst y11.snd.snd.snd.snd.snd.snd.snd.snd.fst y11.snd.snd.snd.snd.snd.snd.snd.snd.snd.fst y11.snd.snd.snd.snd.snd.snd.snd.snd.snd.snd.fst y11.snd.snd.snd.snd.fst y11.snd.snd.snd.snd.snd.fst y11.snd.snd.snd.snd.snd.snd.fst y11.snd.snd.snd.snd.snd.snd.snd.fst y9.fst y9.snd.fst y9.snd.snd.fst y9.snd.snd.snd.fst y9.snd.snd.snd.snd.snd.snd.snd.snd.fst y9.snd.snd.snd.snd.snd.snd.snd.snd.snd.fst y9.snd.snd.snd.snd.snd.snd.snd.snd.snd.snd.fst y9.snd.snd.snd.snd.fst y9.snd.snd.snd.snd.snd.fst y9.snd.snd.snd.snd.snd.snd.fst y9.snd.snd.snd.snd.snd.snd.snd.fst) fun y12 =>
                   some ((y12.fst, ()))
                 else
                  bif inRange 9 (List.length y9.snd.snd.snd.snd.snd.snd.snd.snd.snd.snd.fst) then
                   bif (List.getD y9.snd.snd.snd.snd.snd.snd.snd.snd.snd.snd.fst 9 (0, 0, 0, 0)).snd.fst == 2 then
                    bif inRange 9 (List.length y9.snd.snd.snd.snd.snd.snd.snd.snd.snd.snd.fst) then
                     bif (List.getD y9.snd.snd.snd.snd.snd.snd.snd.snd.snd.snd.fst 9 (0, 0, 0, 0)).snd.snd.snd == y7.snd.fst then
                      Option.bind (f15 y11.fst y11.snd.fst y11.snd.snd.fst y11.snd.snd.snd.fst y11.snd.snd.snd.snd.snd.snd.snd.snd.fst y11.snd.snd.snd.snd.snd.snd.snd.snd.snd.fst y11.snd.snd.snd.snd.snd.snd.snd.snd.snd.snd.fst y11.snd.snd.snd.snd.fst y11.snd.snd.snd.snd.snd.fst y11.snd.snd.snd.snd.snd.snd.fst y11.snd.snd.snd.snd.snd.snd.snd.fst y7.snd.snd.snd.fst y7.snd.snd.snd.snd.fst y7.snd.snd.snd.snd.snd.fst y7.snd.snd.snd.snd.snd.snd.fst y7.snd.snd.snd.snd.snd.snd.snd.snd.snd.snd.snd.fst y7.snd.snd.snd.snd.snd.snd.snd.snd.snd.snd.snd.snd.fst y7.snd.snd.snd.snd.snd.snd.snd.snd.snd.snd.snd.snd.snd.fst y7.snd.snd.snd.snd.snd.snd.snd.fst y7.snd.snd.snd.snd.snd.snd.snd.snd.fst y7.snd.snd.snd.snd.snd.snd.snd.snd.snd.fst y7.snd.snd.snd.snd.snd.snd.snd.snd.snd.snd.fst) fun y13 =>
                       some ((y13.fst, ()))
                     else
                      some ((Bool.false, ()))
                    else
                     none
                   else
                    some ((Bool.false, ()))
                  else
                   none
            else
             none
         ) (fun z8 =>
          some (z8)
         ) (y6)
       else
        none
      ) (fun z5 =>
       some (z5)
      ) (y3)
def f9.ins : Shape := ⟨[(0, .c (.int .i64)), (1, .c (.bool)), (2, .c (.int .i64)), (3, .c (.bool))], []⟩
def f9.outs : List Shape := [⟨[(0, .c (.bool))], []⟩]
def f9.S : FnSpec := ⟨f9.ins, f9.outs, [], fun x => f9 x.1 x.2.1 x.2.2.1 x.2.2.2.1⟩
def f9.E (fuel : Nat) : Env := ⟨tisB, [(12, f12.S), (11, f11.S), (14, f14.S), (10, f10.S), (15, f15.S), (22, f22.S)], [], [(9, ⟨[(1, .c (.bool)), (2, .c (.int .i64)), (3, .c (.bool)), (9, .c (.ptr 0 0)), (10, .c (.ptr 1 0))], [(0, .box [.int .i64, .int .i64, .int .i64, .int .i64, .own 2, .own 3, .own 4, .int .i64, .int .i64, .int .i64, .int .i64]), (1, .box [.int .i64, .int .i64, .int .i64, .int .i64]), (2, .arr (.int .u8)), (3, .arr (.prod (.int .i64) (.prod (.int .i64) (.prod (.int .i64) (.prod (.int .i64) (.prod (.int .i64) (.prod (.int .i64) (.prod (.int .i64) (.prod (.int .i64) (.prod (.int .i64) (.prod (.int .i64) (.int .i64)))))))))))), (4, .arr (.prod (.int .i64) (.prod (.int .i64) (.prod (.int .i64) (.int .i64)))))]⟩), (12, ⟨[(1, .c (.bool)), (2, .c (.int .i64)), (3, .c (.bool)), (9, .c (.ptr 0 0))], [(0, .box [.int .i64, .int .i64, .int .i64, .int .i64, .own 1, .own 2, .own 3, .int .i64, .int .i64, .int .i64, .int .i64]), (1, .arr (.int .u8)), (2, .arr (.prod (.int .i64) (.prod (.int .i64) (.prod (.int .i64) (.prod (.int .i64) (.prod (.int .i64) (.prod (.int .i64) (.prod (.int .i64) (.prod (.int .i64) (.prod (.int .i64) (.prod (.int .i64) (.int .i64)))))))))))), (3, .arr (.prod (.int .i64) (.prod (.int .i64) (.prod (.int .i64) (.int .i64)))))]⟩)], [], [], 0, [], fuel⟩
theorem f9.run : ∀ x, runFn (f9.E 100000000000000000000) Go.Proofs.Try.f9 ((Go.Proofs.Try.f9.body).getD .skip) f9.S x = f9.S.f x := by intro x; kernel_rfl
theorem f9.sound : Sound Go.Proofs.Try.prog 9 f9.S := sound_of_run (fun _ => f9.E 100000000000000000000) (by kernel_rfl) (by kernel_rfl) (by kernel_rfl) ordersB (fun _ => ⟨tisB_ok, EqsOk.nil _, (FnsOk.cons f12.sound (FnsOk.cons f11.sound (FnsOk.cons f14.sound (FnsOk.cons f10.sound (FnsOk.cons f15.sound (FnsOk.cons f22.sound FnsOk.nil))))))⟩) (fun _ => rfl) (by kernel_rfl) (by kernel_rfl) (fun x r h => (f9.run x).trans h)
end
end Go.Proofs.Ytdbfecfcoephoaa.Run

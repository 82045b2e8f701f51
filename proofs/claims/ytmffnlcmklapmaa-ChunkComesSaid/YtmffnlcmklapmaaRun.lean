/- Functions of the program as Lean functions: printed by a tool of this session (own work). -/
import Derived.Test.YtmffnlcmklapmaaProg
import Derived.Test.YtmffnlcmklapmaaMxY
namespace Go.Proofs.Ytmffnlcmklapmaa.Run
open Go Go.Proofs.Ytmffnlcmklapmaa.Mx
abbrev tE : Ty := .prod (.int .i64) (.prod (.int .i64) (.prod (.int .i64) (.prod (.int .i64) (.prod (.int .i64) (.prod (.int .i64) (.prod (.int .i64) (.prod (.int .i64) (.prod (.int .i64) (.prod (.int .i64) (.int .i64))))))))))
abbrev tI : Ty := .prod (.int .i64) (.prod (.int .i64) (.prod (.int .i64) (.int .i64)))
abbrev n6 : AF := .c (.int .i64)
abbrev nb : AF := .c .bool
abbrev r8 : AF := .c (.row (.int .u8))
abbrev rE : AF := .c (.row tE)
abbrev rI : AF := .c (.row tI)
abbrev wS : AF := .agg [.int .i64, .int .i64, .int .i64, .int .i64, .row (.int .u8), .row tE, .row tI, .int .i64, .int .i64, .int .i64, .int .i64]
abbrev eS : AF := .agg [.int .i64, .int .i64, .int .i64, .int .i64, .int .i64, .int .i64, .int .i64, .int .i64, .int .i64, .int .i64, .int .i64]
def RunOk (E : Nat → Env) (fn : Func) (S : FnSpec) : Prop := ∀ x, runFn (E 100000000000000000000) fn ((fn.body).getD .skip) S x = S.f x
theorem fc {P : Program} {k : Nat} {T : FnSpec} {l : List (Nat × FnSpec)} (h : Sound P k T) (hl : ∀ f S, S ∈ fnsOf l f → Sound P f S) : ∀ f S, S ∈ fnsOf ((k, T) :: l) f → Sound P f S := FnsOk.cons h hl
abbrev E11 := Int × Int × Int × Int × Int × Int × Int × Int × Int × Int × Int
set_option autoImplicit false
set_option linter.unusedVariables false
set_option maxRecDepth 100000
set_option maxHeartbeats 4000000
noncomputable section
def ty3 : TI := ⟨.int .i64, 1, 8, [.int .i64 0], some (.int .i64)⟩
def ty4 : TI := ⟨.bool, 1, 1, [.bool false], some .bool⟩
def ty5 : TI := ⟨.int .u8, 1, 1, [.int .u8 0], some (.int .u8)⟩
def ty9 : TI := ⟨.str, 1, 16, [.str ⟨#[]⟩], some .str⟩
def ty22 : TI := ⟨.slice 33, 1, 24, [.nils], some (.row (.prod (.int .i64) (.prod (.int .i64) (.row (.int .u8)))))⟩
def ty24 : TI := ⟨.ptr 56, 1, 8, [.nilp], none⟩
def ty27 : TI := ⟨.arr 16 4, 16, 16, [.bool false, .bool false, .bool false, .bool false, .bool false, .bool false, .bool false, .bool false, .bool false, .bool false, .bool false, .bool false, .bool false, .bool false, .bool false, .bool false], some (.prod .bool (.prod .bool (.prod .bool (.prod .bool (.prod .bool (.prod .bool (.prod .bool (.prod .bool (.prod .bool (.prod .bool (.prod .bool (.prod .bool (.prod .bool (.prod .bool (.prod .bool .bool)))))))))))))))⟩
def ty28 : TI := ⟨.slice 5, 1, 24, [.nils], some (.row (.int .u8))⟩
def ty29 : TI := ⟨.arr 16 28, 16, 384, [.nils, .nils, .nils, .nils, .nils, .nils, .nils, .nils, .nils, .nils, .nils, .nils, .nils, .nils, .nils, .nils], some (.prod (.row (.int .u8)) (.prod (.row (.int .u8)) (.prod (.row (.int .u8)) (.prod (.row (.int .u8)) (.prod (.row (.int .u8)) (.prod (.row (.int .u8)) (.prod (.row (.int .u8)) (.prod (.row (.int .u8)) (.prod (.row (.int .u8)) (.prod (.row (.int .u8)) (.prod (.row (.int .u8)) (.prod (.row (.int .u8)) (.prod (.row (.int .u8)) (.prod (.row (.int .u8)) (.prod (.row (.int .u8)) (.row (.int .u8)))))))))))))))))⟩
def ty31 : TI := ⟨.struct [(0, 3), (1, 27), (17, 29)], 33, 408, [.int .i64 0, .bool false, .bool false, .bool false, .bool false, .bool false, .bool false, .bool false, .bool false, .bool false, .bool false, .bool false, .bool false, .bool false, .bool false, .bool false, .bool false, .nils, .nils, .nils, .nils, .nils, .nils, .nils, .nils, .nils, .nils, .nils, .nils, .nils, .nils, .nils, .nils], some (.prod (.int .i64) (.prod (.prod .bool (.prod .bool (.prod .bool (.prod .bool (.prod .bool (.prod .bool (.prod .bool (.prod .bool (.prod .bool (.prod .bool (.prod .bool (.prod .bool (.prod .bool (.prod .bool (.prod .bool .bool))))))))))))))) (.prod (.row (.int .u8)) (.prod (.row (.int .u8)) (.prod (.row (.int .u8)) (.prod (.row (.int .u8)) (.prod (.row (.int .u8)) (.prod (.row (.int .u8)) (.prod (.row (.int .u8)) (.prod (.row (.int .u8)) (.prod (.row (.int .u8)) (.prod (.row (.int .u8)) (.prod (.row (.int .u8)) (.prod (.row (.int .u8)) (.prod (.row (.int .u8)) (.prod (.row (.int .u8)) (.prod (.row (.int .u8)) (.row (.int .u8)))))))))))))))))))⟩
def ty33 : TI := ⟨.struct [(0, 3), (1, 3), (2, 28)], 3, 40, [.int .i64 0, .int .i64 0, .nils], some (.prod (.int .i64) (.prod (.int .i64) (.row (.int .u8))))⟩
def ty37 : TI := ⟨.int .u32, 1, 4, [.int .u32 0], some (.int .u32)⟩
def ty42 : TI := ⟨.slice 3, 1, 24, [.nils], some (.row (.int .i64))⟩
def ty45 : TI := ⟨.slice 4, 1, 24, [.nils], some (.row .bool)⟩
def ty46 : TI := ⟨.slice 28, 1, 24, [.nils], some (.row (.row (.int .u8)))⟩
def ty49 : TI := ⟨.ptr 60, 1, 8, [.nilp], none⟩
def ty56 : TI := ⟨.struct [(0, 29), (16, 37), (17, 3)], 18, 400, [.nils, .nils, .nils, .nils, .nils, .nils, .nils, .nils, .nils, .nils, .nils, .nils, .nils, .nils, .nils, .nils, .int .u32 0, .int .i64 0], some (.prod (.prod (.row (.int .u8)) (.prod (.row (.int .u8)) (.prod (.row (.int .u8)) (.prod (.row (.int .u8)) (.prod (.row (.int .u8)) (.prod (.row (.int .u8)) (.prod (.row (.int .u8)) (.prod (.row (.int .u8)) (.prod (.row (.int .u8)) (.prod (.row (.int .u8)) (.prod (.row (.int .u8)) (.prod (.row (.int .u8)) (.prod (.row (.int .u8)) (.prod (.row (.int .u8)) (.prod (.row (.int .u8)) (.row (.int .u8))))))))))))))))) (.prod (.int .u32) (.int .i64)))⟩
def ty60 : TI := ⟨.struct [(0, 45), (1, 3)], 2, 32, [.nils, .int .i64 0], some (.prod (.row .bool) (.int .i64))⟩
def tis : List (Nat × TI) := [(3, ty3), (4, ty4), (5, ty5), (9, ty9), (22, ty22), (24, ty24), (27, ty27), (28, ty28), (29, ty29), (31, ty31), (33, ty33), (37, ty37), (42, ty42), (45, ty45), (46, ty46), (49, ty49), (56, ty56), (60, ty60)]
theorem ty3_ok : TIok Go.Proofs.Try.prog 3 ty3 := ⟨by kernel_rfl, by kernel_rfl, by kernel_rfl, by kernel_rfl, by kernel_rfl, by kernel_rfl, by kernel_rfl, by kernel_rfl⟩
theorem ty4_ok : TIok Go.Proofs.Try.prog 4 ty4 := ⟨by kernel_rfl, by kernel_rfl, by kernel_rfl, by kernel_rfl, by kernel_rfl, by kernel_rfl, by kernel_rfl, by kernel_rfl⟩
theorem ty5_ok : TIok Go.Proofs.Try.prog 5 ty5 := ⟨by kernel_rfl, by kernel_rfl, by kernel_rfl, by kernel_rfl, by kernel_rfl, by kernel_rfl, by kernel_rfl, by kernel_rfl⟩
theorem ty9_ok : TIok Go.Proofs.Try.prog 9 ty9 := ⟨by kernel_rfl, by kernel_rfl, by kernel_rfl, by kernel_rfl, by kernel_rfl, by kernel_rfl, by kernel_rfl, by kernel_rfl⟩
theorem ty22_ok : TIok Go.Proofs.Try.prog 22 ty22 := ⟨by kernel_rfl, by kernel_rfl, by kernel_rfl, by kernel_rfl, by kernel_rfl, by kernel_rfl, by kernel_rfl, by kernel_rfl⟩
theorem ty24_ok : TIok Go.Proofs.Try.prog 24 ty24 := ⟨by kernel_rfl, by kernel_rfl, by kernel_rfl, by kernel_rfl, by kernel_rfl, by kernel_rfl, by kernel_rfl, by kernel_rfl⟩
theorem ty27_ok : TIok Go.Proofs.Try.prog 27 ty27 := ⟨by kernel_rfl, by kernel_rfl, by kernel_rfl, by kernel_rfl, by kernel_rfl, by kernel_rfl, by kernel_rfl, by kernel_rfl⟩
theorem ty28_ok : TIok Go.Proofs.Try.prog 28 ty28 := ⟨by kernel_rfl, by kernel_rfl, by kernel_rfl, by kernel_rfl, by kernel_rfl, by kernel_rfl, by kernel_rfl, by kernel_rfl⟩
theorem ty29_ok : TIok Go.Proofs.Try.prog 29 ty29 := ⟨by kernel_rfl, by kernel_rfl, by kernel_rfl, by kernel_rfl, by kernel_rfl, by kernel_rfl, by kernel_rfl, by kernel_rfl⟩
theorem ty31_ok : TIok Go.Proofs.Try.prog 31 ty31 := ⟨by kernel_rfl, by kernel_rfl, by kernel_rfl, by kernel_rfl, by kernel_rfl, by kernel_rfl, by kernel_rfl, by kernel_rfl⟩
theorem ty33_ok : TIok Go.Proofs.Try.prog 33 ty33 := ⟨by kernel_rfl, by kernel_rfl, by kernel_rfl, by kernel_rfl, by kernel_rfl, by kernel_rfl, by kernel_rfl, by kernel_rfl⟩
theorem ty37_ok : TIok Go.Proofs.Try.prog 37 ty37 := ⟨by kernel_rfl, by kernel_rfl, by kernel_rfl, by kernel_rfl, by kernel_rfl, by kernel_rfl, by kernel_rfl, by kernel_rfl⟩
theorem ty42_ok : TIok Go.Proofs.Try.prog 42 ty42 := ⟨by kernel_rfl, by kernel_rfl, by kernel_rfl, by kernel_rfl, by kernel_rfl, by kernel_rfl, by kernel_rfl, by kernel_rfl⟩
theorem ty45_ok : TIok Go.Proofs.Try.prog 45 ty45 := ⟨by kernel_rfl, by kernel_rfl, by kernel_rfl, by kernel_rfl, by kernel_rfl, by kernel_rfl, by kernel_rfl, by kernel_rfl⟩
theorem ty46_ok : TIok Go.Proofs.Try.prog 46 ty46 := ⟨by kernel_rfl, by kernel_rfl, by kernel_rfl, by kernel_rfl, by kernel_rfl, by kernel_rfl, by kernel_rfl, by kernel_rfl⟩
theorem ty49_ok : TIok Go.Proofs.Try.prog 49 ty49 := ⟨by kernel_rfl, by kernel_rfl, by kernel_rfl, by kernel_rfl, by kernel_rfl, by kernel_rfl, by kernel_rfl, by kernel_rfl⟩
theorem ty56_ok : TIok Go.Proofs.Try.prog 56 ty56 := ⟨by kernel_rfl, by kernel_rfl, by kernel_rfl, by kernel_rfl, by kernel_rfl, by kernel_rfl, by kernel_rfl, by kernel_rfl⟩
theorem ty60_ok : TIok Go.Proofs.Try.prog 60 ty60 := ⟨by kernel_rfl, by kernel_rfl, by kernel_rfl, by kernel_rfl, by kernel_rfl, by kernel_rfl, by kernel_rfl, by kernel_rfl⟩
theorem tis_ok : TIs Go.Proofs.Try.prog tis := (TIs.cons ty3_ok (TIs.cons ty4_ok (TIs.cons ty5_ok (TIs.cons ty9_ok (TIs.cons ty22_ok (TIs.cons ty24_ok (TIs.cons ty27_ok (TIs.cons ty28_ok (TIs.cons ty29_ok (TIs.cons ty31_ok (TIs.cons ty33_ok (TIs.cons ty37_ok (TIs.cons ty42_ok (TIs.cons ty45_ok (TIs.cons ty46_ok (TIs.cons ty49_ok (TIs.cons ty56_ok (TIs.cons ty60_ok (TIs.nil _)))))))))))))))))))
theorem orders : Go.Proofs.Try.prog.follows .mixedOrders = true := by kernel_rfl
/-! f16: adit/chunk.NewSender -/
def f16 (a0 : Int) : Option (Int × Unit ⊕ Int × Int × List Bool × Unit) :=
 bif decide (a0 < 1) then
 some (Sum.inl (1, ()))
 else
 bif decide (a0 > 16) then
 some (Sum.inl (1, ()))
 else
 bif decide (0 ≤ a0 ∧ a0 ≤ a0 ∧ a0 ≤ (↑(limit 1) : Int)) then
 some (Sum.inr (0, 0, List.replicate (Int.toNat a0) Bool.false, ()))
 else
 none
def f16.ins : Shape := ⟨[(0, n6)], []⟩
def f16.outs : List Shape := [⟨[(0, .c (.nilp)), (1, n6)], []⟩, ⟨[(0, .c (.ptr 0 0)), (1, n6)], [(0, .box [.own 1, .int .i64]), (1, .arr .bool)]⟩]
def f16.S : FnSpec := ⟨f16.ins, f16.outs, [], fun x => f16 x.1⟩
def f16.E (fuel : Nat) : Env := ⟨tis, [], [], [], [], [], 0, [], fuel⟩
theorem f16.run : RunOk f16.E Go.Proofs.Try.f16 f16.S := by intro x; kernel_rfl
theorem f16.sound : Sound Go.Proofs.Try.prog 16 f16.S := sound_of_run (fun _ => f16.E 100000000000000000000) (by kernel_rfl) (by kernel_rfl) (by kernel_rfl) orders (fun _ => ⟨tis_ok, EqsOk.nil _, FnsOk.nil⟩) (fun _ => rfl) (by kernel_rfl) (by kernel_rfl) (fun x r h => (f16.run x).trans h)
/-! f18: (*adit/chunk.Sender).Next -/
def f18.L1 (x : Int × Int × Int × Int × Int × List Bool × List Int × Unit) : Option (Int × List Bool × List Int × Unit ⊕ Int × List Bool × List Int × Unit) :=
 it (X := Int × Int × Int × Int × Int × List Bool × List Int × Unit) (fun rec x => match x with
 | (v0, v1, v2, v3, v4, v5, v6, _) =>
 bif decide (v3 < v2) then
 bif decide ((↑(List.length v6) : Int) ≥ v0) then
 some (Sum.inl (v4, v5, v6, ()))
 else
 Option.bind (α := Int × Int × Int × Int × Int × List Bool × List Int × Unit ⊕ Int × List Bool × List Int × Unit ⊕ Int × List Bool × List Int × Unit) (
 bif inRange v1 (List.length v5) then
 bif !List.getD v5 (Int.toNat v1) Bool.false then
 bif decide (List.length v6 + 1 ≤ limit 8) then
 bif decide ((↑(List.length v5) : Int) = 0) then
 none
 else
 some (Sum.inl (v0, v1, v2, v3, Int.tmod (IntKind.wrap .i64 (v1 + 1)) (↑(List.length v5) : Int), v5, v6 ++ [v1], ()))
 else
 none
 else
 some (Sum.inl (v0, v1, v2, v3, v4, v5, v6, ()))
 else
 none
 ) fun y0 =>
 Sum.elim (fun y1 =>
 bif decide ((↑(List.length y1.2.2.2.2.2.1) : Int) = 0) then
 none
 else
 rec (y1.1, Int.tmod (IntKind.wrap .i64 (y1.2.1 + 1)) (↑(List.length y1.2.2.2.2.2.1) : Int), y1.2.2.1, IntKind.wrap .i64 (y1.2.2.2.1 + 1), y1.2.2.2.2.1, y1.2.2.2.2.2.1, y1.2.2.2.2.2.2.1, ())
 ) (fun z2 =>
 some (z2)
 ) (y0)
 else
 some (Sum.inl (v4, v5, v6, ()))
 ) (100000000000000000000) (x)
def f18 (a0 : Int) (a1 : Int) (a2 : List Bool) : Option (Int × List Bool × List Int × Unit) :=
 Option.bind (α := Int × List Bool × List Int × Unit ⊕ Int × List Bool × List Int × Unit) (
 f18.L1 ((a0, a1, (↑(List.length a2) : Int), 0, a1, a2, [], ()))
 ) fun y0 =>
 Sum.elim (fun y1 =>
 some ((y1.1, y1.2.1, y1.2.2.1, ()))
 ) (fun z2 =>
 some (z2)
 ) (y0)
def f18.ins : Shape := ⟨[(0, .c (.ptr 0 0)), (1, n6)], [(0, .box [.own 1, .int .i64]), (1, .arr .bool)]⟩
def f18.outs : List Shape := [⟨[(0, .c (.own 2))], [(0, .box [.own 1, .int .i64]), (1, .arr .bool), (2, .arr (.int .i64))]⟩]
def f18.S : FnSpec := ⟨f18.ins, f18.outs, [0, 1], fun x => f18 x.1 x.2.1 x.2.2.1⟩
def f18.E (fuel : Nat) : Env := ⟨tis, [], [], [(10, ⟨[(0, .c (.ptr 0 0)), (1, n6), (5, .c (.own 2)), (6, n6), (15, n6), (16, n6)], [(0, .box [.own 1, .int .i64]), (1, .arr .bool), (2, .arr (.int .i64))]⟩), (12, ⟨[(5, .c (.own 2))], [(0, .box [.own 1, .int .i64]), (1, .arr .bool), (2, .arr (.int .i64))]⟩)], [(5, ⟨[(0, .c (.ptr 0 0)), (1, n6), (5, .c (.own 2)), (6, n6), (15, n6), (16, n6)], [(0, .box [.own 1, .int .i64]), (1, .arr .bool), (2, .arr (.int .i64))]⟩)], [], 2, [0, 1], fuel⟩
theorem f18.run : RunOk f18.E Go.Proofs.Try.f18 f18.S := by intro x; kernel_rfl
theorem f18.sound : Sound Go.Proofs.Try.prog 18 f18.S := sound_of_run (fun _ => f18.E 100000000000000000000) (by kernel_rfl) (by kernel_rfl) (by kernel_rfl) orders (fun _ => ⟨tis_ok, EqsOk.nil _, FnsOk.nil⟩) (fun _ => rfl) (by kernel_rfl) (by kernel_rfl) (fun x r h => (f18.run x).trans h)
/-! f6: adit/aditlaw12.known -/
def f6 : Option (Bool × Unit) :=
 Option.bind (f16 5) fun y0 =>
 Sum.elim (fun y1 =>
 bif y1.1 != 0 then
 some ((Bool.false, ()))
 else
 some ((Bool.false, ()))
 ) (fun z2 =>
 bif z2.1 != 0 then
 some ((Bool.false, ()))
 else
 Option.bind (f18 3 z2.2.1 z2.2.2.1) fun y3 =>
 Option.bind (f18 3 y3.1 y3.2.1) fun y4 =>
 bif (↑(List.length y3.2.2.1) : Int) == 3 then
 bif inRange 2 (List.length y3.2.2.1) then
 bif List.getD y3.2.2.1 2 0 == 2 then
 bif (↑(List.length y4.2.2.1) : Int) == 3 then
 bif inRange 0 (List.length y4.2.2.1) then
 bif List.getD y4.2.2.1 0 0 == 3 then
 bif inRange 2 (List.length y4.2.2.1) then
 some ((List.getD y4.2.2.1 2 0 == 0, ()))
 else
 none
 else
 some ((Bool.false, ()))
 else
 none
 else
 some ((Bool.false, ()))
 else
 some ((Bool.false, ()))
 else
 none
 else
 some ((Bool.false, ()))
 ) (y0)
def f6.ins : Shape := ⟨[], []⟩
def f6.outs : List Shape := [⟨[(0, .c (.bool))], []⟩]
def f6.S : FnSpec := ⟨f6.ins, f6.outs, [], fun _ => f6⟩
def f6.E (fuel : Nat) : Env := ⟨tis, [(16, f16.S), (18, f18.S)], [], [], [], [], 0, [], fuel⟩
theorem f6.run : RunOk f6.E Go.Proofs.Try.f6 f6.S := by intro x; kernel_rfl
theorem f6.sound : Sound Go.Proofs.Try.prog 6 f6.S := sound_of_run (fun _ => f6.E 100000000000000000000) (by kernel_rfl) (by kernel_rfl) (by kernel_rfl) orders (fun _ => ⟨tis_ok, EqsOk.nil _, (fc f16.sound (fc f18.sound FnsOk.nil))⟩) (fun _ => rfl) (by kernel_rfl) (by kernel_rfl) (fun x r h => (f6.run x).trans h)
/-! f7: adit/chunk.NewTaker -/
def f7 : Option (Int × Int × Unit) :=
 some ((0, 0, ()))
def f7.ins : Shape := ⟨[], []⟩
def f7.outs : List Shape := [⟨[(0, .c (.ptr 0 0))], [(0, .box [.nils, .nils, .nils, .nils, .nils, .nils, .nils, .nils, .nils, .nils, .nils, .nils, .nils, .nils, .nils, .nils, .int .u32, .int .i64])]⟩]
def f7.S : FnSpec := ⟨f7.ins, f7.outs, [], fun _ => f7⟩
def f7.E (fuel : Nat) : Env := ⟨tis, [], [], [], [], [], 0, [], fuel⟩
theorem f7.run : RunOk f7.E Go.Proofs.Try.f7 f7.S := by intro x; kernel_rfl
theorem f7.sound : Sound Go.Proofs.Try.prog 7 f7.S := sound_of_run (fun _ => f7.E 100000000000000000000) (by kernel_rfl) (by kernel_rfl) (by kernel_rfl) orders (fun _ => ⟨tis_ok, EqsOk.nil _, FnsOk.nil⟩) (fun _ => rfl) (by kernel_rfl) (by kernel_rfl) (fun x r h => (f7.run x).trans h)
/-! f20: slices.Clone[[]byte,byte] -/
def f20 (a0 : List Int) : Option (List Int × Unit) := cloneF (.int .u8) 1 a0
def f20.S : FnSpec := ⟨cloneIns (.int .u8), cloneOuts (.int .u8), [], fun x => f20 x.1⟩
def f20.E : Env := ⟨tis, [], [], [], [], [], 0, [], 1⟩
theorem f20.sound : Sound Go.Proofs.Try.prog 20 f20.S := clone_sound (fn := Go.Proofs.Try.f20) (t := 28) (q := 5) (u := 4) (bytes := 1) (i := ty28) f20.E (by kernel_rfl) (by kernel_rfl) (by kernel_rfl) orders (by kernel_rfl) ⟨tis_ok, EqsOk.nil _, FnsOk.nil⟩ rfl (by kernel_rfl) (by kernel_rfl) (by intro l A K; kernel_rfl) (by kernel_rfl) (by intro l; kernel_rfl)
/-! f8_1: (*adit/chunk.Taker).Put -/
def f8_1 (a0 : Int) (a1 : Int) (a2 : List Int) (a3 : List Int) (a4 : List Int) (a5 : List Int) (a6 : List Int) (a7 : List Int) (a8 : List Int) (a9 : List Int) (a10 : List Int) (a11 : List Int) (a12 : List Int) (a13 : List Int) (a14 : List Int) (a15 : List Int) (a16 : List Int) (a17 : List Int) (a18 : Int) (a19 : Int) (a20 : List Int) : Option (Int × List Int × List Int × List Int × List Int × List Int × List Int × List Int × List Int × List Int × List Int × List Int × List Int × List Int × List Int × List Int × List Int × Int × Int × List Int × Unit) :=
 Option.bind (α := Int × Int × List Int × List Int × List Int × List Int × List Int × List Int × List Int × List Int × List Int × List Int × List Int × List Int × List Int × List Int × List Int × List Int × Int × Int × List Int × Unit ⊕ Int × List Int × List Int × List Int × List Int × List Int × List Int × List Int × List Int × List Int × List Int × List Int × List Int × List Int × List Int × List Int × List Int × Int × Int × List Int × Unit) (
 Option.bind (α := Int × Int × Bool × List Int × List Int × List Int × List Int × List Int × List Int × List Int × List Int × List Int × List Int × List Int × List Int × List Int × List Int × List Int × List Int × Int × Int × List Int × Unit ⊕ Int × Int × List Int × List Int × List Int × List Int × List Int × List Int × List Int × List Int × List Int × List Int × List Int × List Int × List Int × List Int × List Int × List Int × Int × Int × List Int × Unit ⊕ Int × List Int × List Int × List Int × List Int × List Int × List Int × List Int × List Int × List Int × List Int × List Int × List Int × List Int × List Int × List Int × List Int × Int × Int × List Int × Unit) (
 bif decide (a1 < 1) then
 some (Sum.inl (a0, a1, Bool.true, a2, a3, a4, a5, a6, a7, a8, a9, a10, a11, a12, a13, a14, a15, a16, a17, a18, a19, a20, ()))
 else
 bif decide (a1 > 16) then
 some (Sum.inl (a0, a1, Bool.true, a2, a3, a4, a5, a6, a7, a8, a9, a10, a11, a12, a13, a14, a15, a16, a17, a18, a19, a20, ()))
 else
 bif decide (a0 < 0) then
 some (Sum.inl (a0, a1, Bool.true, a2, a3, a4, a5, a6, a7, a8, a9, a10, a11, a12, a13, a14, a15, a16, a17, a18, a19, a20, ()))
 else
 some (Sum.inl (a0, a1, decide (a0 ≥ a1), a2, a3, a4, a5, a6, a7, a8, a9, a10, a11, a12, a13, a14, a15, a16, a17, a18, a19, a20, ()))
 ) fun y4 =>
 Sum.elim (fun y5 => match y5 with
 | (u5_0, u5_1, u5_2, u5_3, u5_4, u5_5, u5_6, u5_7, u5_8, u5_9, u5_10, u5_11, u5_12, u5_13, u5_14, u5_15, u5_16, u5_17, u5_18, u5_19, u5_20, u5_21, _) =>
 bif u5_2 then
 some (Sum.inr (1, u5_3, u5_4, u5_5, u5_6, u5_7, u5_8, u5_9, u5_10, u5_11, u5_12, u5_13, u5_14, u5_15, u5_16, u5_17, u5_18, u5_19, u5_20, u5_21, ()))
 else
 bif u5_20 != 0 then
 bif u5_20 != u5_1 then
 some (Sum.inr (9, u5_3, u5_4, u5_5, u5_6, u5_7, u5_8, u5_9, u5_10, u5_11, u5_12, u5_13, u5_14, u5_15, u5_16, u5_17, u5_18, u5_19, u5_20, u5_21, ()))
 else
 bif decide ((↑(List.length u5_21) : Int) > 64) then
 some (Sum.inr (9, u5_3, u5_4, u5_5, u5_6, u5_7, u5_8, u5_9, u5_10, u5_11, u5_12, u5_13, u5_14, u5_15, u5_16, u5_17, u5_18, u5_19, u5_20, u5_21, ()))
 else
 bif decide ((↑(List.length u5_21) : Int) < 64) then
 bif u5_0 != IntKind.wrap .i64 (u5_1 - 1) then
 some (Sum.inr (9, u5_3, u5_4, u5_5, u5_6, u5_7, u5_8, u5_9, u5_10, u5_11, u5_12, u5_13, u5_14, u5_15, u5_16, u5_17, u5_18, u5_19, u5_20, u5_21, ()))
 else
 some (Sum.inl (u5_0, u5_1, u5_3, u5_4, u5_5, u5_6, u5_7, u5_8, u5_9, u5_10, u5_11, u5_12, u5_13, u5_14, u5_15, u5_16, u5_17, u5_18, u5_19, u5_20, u5_21, ()))
 else
 some (Sum.inl (u5_0, u5_1, u5_3, u5_4, u5_5, u5_6, u5_7, u5_8, u5_9, u5_10, u5_11, u5_12, u5_13, u5_14, u5_15, u5_16, u5_17, u5_18, u5_19, u5_20, u5_21, ()))
 else
 bif decide ((↑(List.length u5_21) : Int) > 64) then
 some (Sum.inr (9, u5_3, u5_4, u5_5, u5_6, u5_7, u5_8, u5_9, u5_10, u5_11, u5_12, u5_13, u5_14, u5_15, u5_16, u5_17, u5_18, u5_19, u5_20, u5_21, ()))
 else
 bif decide ((↑(List.length u5_21) : Int) < 64) then
 bif u5_0 != IntKind.wrap .i64 (u5_1 - 1) then
 some (Sum.inr (9, u5_3, u5_4, u5_5, u5_6, u5_7, u5_8, u5_9, u5_10, u5_11, u5_12, u5_13, u5_14, u5_15, u5_16, u5_17, u5_18, u5_19, u5_20, u5_21, ()))
 else
 some (Sum.inl (u5_0, u5_1, u5_3, u5_4, u5_5, u5_6, u5_7, u5_8, u5_9, u5_10, u5_11, u5_12, u5_13, u5_14, u5_15, u5_16, u5_17, u5_18, u5_19, u5_20, u5_21, ()))
 else
 some (Sum.inl (u5_0, u5_1, u5_3, u5_4, u5_5, u5_6, u5_7, u5_8, u5_9, u5_10, u5_11, u5_12, u5_13, u5_14, u5_15, u5_16, u5_17, u5_18, u5_19, u5_20, u5_21, ()))
 ) (fun z6 =>
 some (z6)
 ) (y4)
 ) fun y0 =>
 Sum.elim (fun y1 => match y1 with
 | (u1_0, u1_1, u1_2, u1_3, u1_4, u1_5, u1_6, u1_7, u1_8, u1_9, u1_10, u1_11, u1_12, u1_13, u1_14, u1_15, u1_16, u1_17, u1_18, _, u1_20, _) =>
 bif decide (u1_0 < 0) then
 none
 else
 bif IntKind.wrap .u32 (↑(BitVec.toNat (BitVec.ofInt (IntKind.bits IntKind.u32) (Int.fdiv u1_18 (2 ^ Min.min (Int.toNat u1_0) (IntKind.bits IntKind.u32))) &&& BitVec.ofInt (IntKind.bits IntKind.u32) 1)) : Int) == 0 then
 Option.bind (f20 u1_20) fun y3 =>
 bif inRange u1_0 16 then
 bif decide (u1_0 < 0) then
 none
 else
 some ((0, if Int.toNat u1_0 = 0 / 1 then y3.1 else u1_2, if Int.toNat u1_0 = (0 + 1) / 1 then y3.1 else u1_3, if Int.toNat u1_0 = (0 + 1 + 1) / 1 then y3.1 else u1_4, if Int.toNat u1_0 = (0 + 1 + 1 + 1) / 1 then y3.1 else u1_5, if Int.toNat u1_0 = (0 + 1 + 1 + 1 + 1) / 1 then y3.1 else u1_6, if Int.toNat u1_0 = (0 + 1 + 1 + 1 + 1 + 1) / 1 then y3.1 else u1_7, if Int.toNat u1_0 = (0 + 1 + 1 + 1 + 1 + 1 + 1) / 1 then y3.1 else u1_8, if Int.toNat u1_0 = (0 + 1 + 1 + 1 + 1 + 1 + 1 + 1) / 1 then y3.1 else u1_9, if Int.toNat u1_0 = (0 + 1 + 1 + 1 + 1 + 1 + 1 + 1 + 1) / 1 then y3.1 else u1_10, if Int.toNat u1_0 = (0 + 1 + 1 + 1 + 1 + 1 + 1 + 1 + 1 + 1) / 1 then y3.1 else u1_11, if Int.toNat u1_0 = (0 + 1 + 1 + 1 + 1 + 1 + 1 + 1 + 1 + 1 + 1) / 1 then y3.1 else u1_12, if Int.toNat u1_0 = (0 + 1 + 1 + 1 + 1 + 1 + 1 + 1 + 1 + 1 + 1 + 1) / 1 then y3.1 else u1_13, if Int.toNat u1_0 = (0 + 1 + 1 + 1 + 1 + 1 + 1 + 1 + 1 + 1 + 1 + 1 + 1) / 1 then y3.1 else u1_14, if Int.toNat u1_0 = (0 + 1 + 1 + 1 + 1 + 1 + 1 + 1 + 1 + 1 + 1 + 1 + 1 + 1) / 1 then y3.1 else u1_15, if Int.toNat u1_0 = (0 + 1 + 1 + 1 + 1 + 1 + 1 + 1 + 1 + 1 + 1 + 1 + 1 + 1 + 1) / 1 then y3.1 else u1_16, if Int.toNat u1_0 = (0 + 1 + 1 + 1 + 1 + 1 + 1 + 1 + 1 + 1 + 1 + 1 + 1 + 1 + 1 + 1) / 1 then y3.1 else u1_17, IntKind.wrap .u32 (↑(BitVec.toNat (BitVec.ofInt (IntKind.bits IntKind.u32) u1_18 ||| BitVec.ofInt (IntKind.bits IntKind.u32) (IntKind.wrap .u32 (1 * 2 ^ Min.min (Int.toNat u1_0) (IntKind.bits IntKind.u32))))) : Int), u1_1, u1_20, ()))
 else
 none
 else
 some ((0, u1_2, u1_3, u1_4, u1_5, u1_6, u1_7, u1_8, u1_9, u1_10, u1_11, u1_12, u1_13, u1_14, u1_15, u1_16, u1_17, u1_18, u1_1, u1_20, ()))
 ) (fun z2 =>
 some (z2)
 ) (y0)
def f8_1.ins : Shape := ⟨[(0, .c (.ptr 0 0)), (1, n6), (2, n6), (3, .c (.own 1))], [(0, .box [.row (.int .u8), .row (.int .u8), .row (.int .u8), .row (.int .u8), .row (.int .u8), .row (.int .u8), .row (.int .u8), .row (.int .u8), .row (.int .u8), .row (.int .u8), .row (.int .u8), .row (.int .u8), .row (.int .u8), .row (.int .u8), .row (.int .u8), .row (.int .u8), .int .u32, .int .i64]), (1, .arr (.int .u8))]⟩
def f8_1.outs : List Shape := [⟨[(0, n6)], [(0, .box [.row (.int .u8), .row (.int .u8), .row (.int .u8), .row (.int .u8), .row (.int .u8), .row (.int .u8), .row (.int .u8), .row (.int .u8), .row (.int .u8), .row (.int .u8), .row (.int .u8), .row (.int .u8), .row (.int .u8), .row (.int .u8), .row (.int .u8), .row (.int .u8), .int .u32, .int .i64]), (1, .arr (.int .u8))]⟩]
def f8_1.S : FnSpec := ⟨f8_1.ins, f8_1.outs, [0, 1], fun x => f8_1 x.1 x.2.1 x.2.2.1 x.2.2.2.1 x.2.2.2.2.1 x.2.2.2.2.2.1 x.2.2.2.2.2.2.1 x.2.2.2.2.2.2.2.1 x.2.2.2.2.2.2.2.2.1 x.2.2.2.2.2.2.2.2.2.1 x.2.2.2.2.2.2.2.2.2.2.1 x.2.2.2.2.2.2.2.2.2.2.2.1 x.2.2.2.2.2.2.2.2.2.2.2.2.1 x.2.2.2.2.2.2.2.2.2.2.2.2.2.1 x.2.2.2.2.2.2.2.2.2.2.2.2.2.2.1 x.2.2.2.2.2.2.2.2.2.2.2.2.2.2.2.1 x.2.2.2.2.2.2.2.2.2.2.2.2.2.2.2.2.1 x.2.2.2.2.2.2.2.2.2.2.2.2.2.2.2.2.2.1 x.2.2.2.2.2.2.2.2.2.2.2.2.2.2.2.2.2.2.1 x.2.2.2.2.2.2.2.2.2.2.2.2.2.2.2.2.2.2.2.1 x.2.2.2.2.2.2.2.2.2.2.2.2.2.2.2.2.2.2.2.2.1⟩
def f8_1.E (fuel : Nat) : Env := ⟨tis, [(20, f20.S)], [], [(3, ⟨[(0, .c (.ptr 0 0)), (1, n6), (2, n6), (3, .c (.own 1)), (9, .c (.bool))], [(0, .box [.row (.int .u8), .row (.int .u8), .row (.int .u8), .row (.int .u8), .row (.int .u8), .row (.int .u8), .row (.int .u8), .row (.int .u8), .row (.int .u8), .row (.int .u8), .row (.int .u8), .row (.int .u8), .row (.int .u8), .row (.int .u8), .row (.int .u8), .row (.int .u8), .int .u32, .int .i64]), (1, .arr (.int .u8))]⟩), (6, ⟨[(0, .c (.ptr 0 0)), (1, n6), (2, n6), (3, .c (.own 1))], [(0, .box [.row (.int .u8), .row (.int .u8), .row (.int .u8), .row (.int .u8), .row (.int .u8), .row (.int .u8), .row (.int .u8), .row (.int .u8), .row (.int .u8), .row (.int .u8), .row (.int .u8), .row (.int .u8), .row (.int .u8), .row (.int .u8), .row (.int .u8), .row (.int .u8), .int .u32, .int .i64]), (1, .arr (.int .u8))]⟩)], [], [], 2, [0, 1], fuel⟩
theorem f8_1.run : RunOk f8_1.E Go.Proofs.Try.f8 f8_1.S := by intro x; kernel_rfl
theorem f8_1.sound : Sound Go.Proofs.Try.prog 8 f8_1.S := sound_of_run (fun _ => f8_1.E 100000000000000000000) (by kernel_rfl) (by kernel_rfl) (by kernel_rfl) orders (fun _ => ⟨tis_ok, EqsOk.nil _, (fc f20.sound FnsOk.nil)⟩) (fun _ => rfl) (by kernel_rfl) (by kernel_rfl) (fun x r h => (f8_1.run x).trans h)
/-! f9: (*adit/aditref12.Taker).Put -/
def f9 (a0 : Int) (a1 : Int) (a2 : List Int) (a3 : Int) (a4 : Bool) (a5 : Bool) (a6 : Bool) (a7 : Bool) (a8 : Bool) (a9 : Bool) (a10 : Bool) (a11 : Bool) (a12 : Bool) (a13 : Bool) (a14 : Bool) (a15 : Bool) (a16 : Bool) (a17 : Bool) (a18 : Bool) (a19 : Bool) (a20 : List Int) (a21 : List Int) (a22 : List Int) (a23 : List Int) (a24 : List Int) (a25 : List Int) (a26 : List Int) (a27 : List Int) (a28 : List Int) (a29 : List Int) (a30 : List Int) (a31 : List Int) (a32 : List Int) (a33 : List Int) (a34 : List Int) (a35 : List Int) : Option (Int × Int × Bool × Bool × Bool × Bool × Bool × Bool × Bool × Bool × Bool × Bool × Bool × Bool × Bool × Bool × Bool × Bool × List Int × List Int × List Int × List Int × List Int × List Int × List Int × List Int × List Int × List Int × List Int × List Int × List Int × List Int × List Int × List Int × Unit) :=
 bif decide (a1 < 1) then
 some ((1, a3, a4, a5, a6, a7, a8, a9, a10, a11, a12, a13, a14, a15, a16, a17, a18, a19, a20, a21, a22, a23, a24, a25, a26, a27, a28, a29, a30, a31, a32, a33, a34, a35, ()))
 else
 bif decide (a1 > 16) then
 some ((1, a3, a4, a5, a6, a7, a8, a9, a10, a11, a12, a13, a14, a15, a16, a17, a18, a19, a20, a21, a22, a23, a24, a25, a26, a27, a28, a29, a30, a31, a32, a33, a34, a35, ()))
 else
 bif decide (a0 < 0) then
 some ((1, a3, a4, a5, a6, a7, a8, a9, a10, a11, a12, a13, a14, a15, a16, a17, a18, a19, a20, a21, a22, a23, a24, a25, a26, a27, a28, a29, a30, a31, a32, a33, a34, a35, ()))
 else
 bif decide (a0 ≥ a1) then
 some ((1, a3, a4, a5, a6, a7, a8, a9, a10, a11, a12, a13, a14, a15, a16, a17, a18, a19, a20, a21, a22, a23, a24, a25, a26, a27, a28, a29, a30, a31, a32, a33, a34, a35, ()))
 else
 Option.bind (α := Int × Int × List Int × Int × Bool × Bool × Bool × Bool × Bool × Bool × Bool × Bool × Bool × Bool × Bool × Bool × Bool × Bool × Bool × Bool × List Int × List Int × List Int × List Int × List Int × List Int × List Int × List Int × List Int × List Int × List Int × List Int × List Int × List Int × List Int × List Int × Unit ⊕ Int × Int × Bool × Bool × Bool × Bool × Bool × Bool × Bool × Bool × Bool × Bool × Bool × Bool × Bool × Bool × Bool × Bool × List Int × List Int × List Int × List Int × List Int × List Int × List Int × List Int × List Int × List Int × List Int × List Int × List Int × List Int × List Int × List Int × Unit) (
 bif a3 != 0 then
 bif a3 != a1 then
 some (Sum.inr (9, a3, a4, a5, a6, a7, a8, a9, a10, a11, a12, a13, a14, a15, a16, a17, a18, a19, a20, a21, a22, a23, a24, a25, a26, a27, a28, a29, a30, a31, a32, a33, a34, a35, ()))
 else
 bif decide ((↑(List.length a2) : Int) > 64) then
 some (Sum.inr (9, a3, a4, a5, a6, a7, a8, a9, a10, a11, a12, a13, a14, a15, a16, a17, a18, a19, a20, a21, a22, a23, a24, a25, a26, a27, a28, a29, a30, a31, a32, a33, a34, a35, ()))
 else
 bif decide ((↑(List.length a2) : Int) < 64) then
 bif a0 != IntKind.wrap .i64 (a1 - 1) then
 some (Sum.inr (9, a3, a4, a5, a6, a7, a8, a9, a10, a11, a12, a13, a14, a15, a16, a17, a18, a19, a20, a21, a22, a23, a24, a25, a26, a27, a28, a29, a30, a31, a32, a33, a34, a35, ()))
 else
 some (Sum.inl (a0, a1, a2, a3, a4, a5, a6, a7, a8, a9, a10, a11, a12, a13, a14, a15, a16, a17, a18, a19, a20, a21, a22, a23, a24, a25, a26, a27, a28, a29, a30, a31, a32, a33, a34, a35, ()))
 else
 some (Sum.inl (a0, a1, a2, a3, a4, a5, a6, a7, a8, a9, a10, a11, a12, a13, a14, a15, a16, a17, a18, a19, a20, a21, a22, a23, a24, a25, a26, a27, a28, a29, a30, a31, a32, a33, a34, a35, ()))
 else
 bif decide ((↑(List.length a2) : Int) > 64) then
 some (Sum.inr (9, a3, a4, a5, a6, a7, a8, a9, a10, a11, a12, a13, a14, a15, a16, a17, a18, a19, a20, a21, a22, a23, a24, a25, a26, a27, a28, a29, a30, a31, a32, a33, a34, a35, ()))
 else
 bif decide ((↑(List.length a2) : Int) < 64) then
 bif a0 != IntKind.wrap .i64 (a1 - 1) then
 some (Sum.inr (9, a3, a4, a5, a6, a7, a8, a9, a10, a11, a12, a13, a14, a15, a16, a17, a18, a19, a20, a21, a22, a23, a24, a25, a26, a27, a28, a29, a30, a31, a32, a33, a34, a35, ()))
 else
 some (Sum.inl (a0, a1, a2, a3, a4, a5, a6, a7, a8, a9, a10, a11, a12, a13, a14, a15, a16, a17, a18, a19, a20, a21, a22, a23, a24, a25, a26, a27, a28, a29, a30, a31, a32, a33, a34, a35, ()))
 else
 some (Sum.inl (a0, a1, a2, a3, a4, a5, a6, a7, a8, a9, a10, a11, a12, a13, a14, a15, a16, a17, a18, a19, a20, a21, a22, a23, a24, a25, a26, a27, a28, a29, a30, a31, a32, a33, a34, a35, ()))
 ) fun y0 =>
 Sum.elim (fun y1 => match y1 with
 | (u1_0, u1_1, u1_2, _, u1_4, u1_5, u1_6, u1_7, u1_8, u1_9, u1_10, u1_11, u1_12, u1_13, u1_14, u1_15, u1_16, u1_17, u1_18, u1_19, u1_20, u1_21, u1_22, u1_23, u1_24, u1_25, u1_26, u1_27, u1_28, u1_29, u1_30, u1_31, u1_32, u1_33, u1_34, u1_35, _) =>
 bif inRange u1_0 16 then
 bif !List.getD [u1_4, u1_5, u1_6, u1_7, u1_8, u1_9, u1_10, u1_11, u1_12, u1_13, u1_14, u1_15, u1_16, u1_17, u1_18, u1_19] (Int.toNat u1_0) Bool.false then
 bif inRange u1_0 16 then
 bif decide (0 + List.length u1_2 ≤ limit 1) then
 bif inRange u1_0 16 then
 some ((0, u1_1, if Int.toNat u1_0 = 0 / 1 then Bool.true else u1_4, if Int.toNat u1_0 = (0 + 1) / 1 then Bool.true else u1_5, if Int.toNat u1_0 = (0 + 1 + 1) / 1 then Bool.true else u1_6, if Int.toNat u1_0 = (0 + 1 + 1 + 1) / 1 then Bool.true else u1_7, if Int.toNat u1_0 = (0 + 1 + 1 + 1 + 1) / 1 then Bool.true else u1_8, if Int.toNat u1_0 = (0 + 1 + 1 + 1 + 1 + 1) / 1 then Bool.true else u1_9, if Int.toNat u1_0 = (0 + 1 + 1 + 1 + 1 + 1 + 1) / 1 then Bool.true else u1_10, if Int.toNat u1_0 = (0 + 1 + 1 + 1 + 1 + 1 + 1 + 1) / 1 then Bool.true else u1_11, if Int.toNat u1_0 = (0 + 1 + 1 + 1 + 1 + 1 + 1 + 1 + 1) / 1 then Bool.true else u1_12, if Int.toNat u1_0 = (0 + 1 + 1 + 1 + 1 + 1 + 1 + 1 + 1 + 1) / 1 then Bool.true else u1_13, if Int.toNat u1_0 = (0 + 1 + 1 + 1 + 1 + 1 + 1 + 1 + 1 + 1 + 1) / 1 then Bool.true else u1_14, if Int.toNat u1_0 = (0 + 1 + 1 + 1 + 1 + 1 + 1 + 1 + 1 + 1 + 1 + 1) / 1 then Bool.true else u1_15, if Int.toNat u1_0 = (0 + 1 + 1 + 1 + 1 + 1 + 1 + 1 + 1 + 1 + 1 + 1 + 1) / 1 then Bool.true else u1_16, if Int.toNat u1_0 = (0 + 1 + 1 + 1 + 1 + 1 + 1 + 1 + 1 + 1 + 1 + 1 + 1 + 1) / 1 then Bool.true else u1_17, if Int.toNat u1_0 = (0 + 1 + 1 + 1 + 1 + 1 + 1 + 1 + 1 + 1 + 1 + 1 + 1 + 1 + 1) / 1 then Bool.true else u1_18, if Int.toNat u1_0 = (0 + 1 + 1 + 1 + 1 + 1 + 1 + 1 + 1 + 1 + 1 + 1 + 1 + 1 + 1 + 1) / 1 then Bool.true else u1_19, if Int.toNat u1_0 = 0 / 1 then u1_2 else u1_20, if Int.toNat u1_0 = (0 + 1) / 1 then u1_2 else u1_21, if Int.toNat u1_0 = (0 + 1 + 1) / 1 then u1_2 else u1_22, if Int.toNat u1_0 = (0 + 1 + 1 + 1) / 1 then u1_2 else u1_23, if Int.toNat u1_0 = (0 + 1 + 1 + 1 + 1) / 1 then u1_2 else u1_24, if Int.toNat u1_0 = (0 + 1 + 1 + 1 + 1 + 1) / 1 then u1_2 else u1_25, if Int.toNat u1_0 = (0 + 1 + 1 + 1 + 1 + 1 + 1) / 1 then u1_2 else u1_26, if Int.toNat u1_0 = (0 + 1 + 1 + 1 + 1 + 1 + 1 + 1) / 1 then u1_2 else u1_27, if Int.toNat u1_0 = (0 + 1 + 1 + 1 + 1 + 1 + 1 + 1 + 1) / 1 then u1_2 else u1_28, if Int.toNat u1_0 = (0 + 1 + 1 + 1 + 1 + 1 + 1 + 1 + 1 + 1) / 1 then u1_2 else u1_29, if Int.toNat u1_0 = (0 + 1 + 1 + 1 + 1 + 1 + 1 + 1 + 1 + 1 + 1) / 1 then u1_2 else u1_30, if Int.toNat u1_0 = (0 + 1 + 1 + 1 + 1 + 1 + 1 + 1 + 1 + 1 + 1 + 1) / 1 then u1_2 else u1_31, if Int.toNat u1_0 = (0 + 1 + 1 + 1 + 1 + 1 + 1 + 1 + 1 + 1 + 1 + 1 + 1) / 1 then u1_2 else u1_32, if Int.toNat u1_0 = (0 + 1 + 1 + 1 + 1 + 1 + 1 + 1 + 1 + 1 + 1 + 1 + 1 + 1) / 1 then u1_2 else u1_33, if Int.toNat u1_0 = (0 + 1 + 1 + 1 + 1 + 1 + 1 + 1 + 1 + 1 + 1 + 1 + 1 + 1 + 1) / 1 then u1_2 else u1_34, if Int.toNat u1_0 = (0 + 1 + 1 + 1 + 1 + 1 + 1 + 1 + 1 + 1 + 1 + 1 + 1 + 1 + 1 + 1) / 1 then u1_2 else u1_35, ()))
 else
 none
 else
 none
 else
 none
 else
 some ((0, u1_1, u1_4, u1_5, u1_6, u1_7, u1_8, u1_9, u1_10, u1_11, u1_12, u1_13, u1_14, u1_15, u1_16, u1_17, u1_18, u1_19, u1_20, u1_21, u1_22, u1_23, u1_24, u1_25, u1_26, u1_27, u1_28, u1_29, u1_30, u1_31, u1_32, u1_33, u1_34, u1_35, ()))
 else
 none
 ) (fun z2 =>
 some (z2)
 ) (y0)
def f9.ins : Shape := ⟨[(0, .c (.ptr 0 0)), (1, n6), (2, n6), (3, r8)], [(0, .box [.int .i64, .bool, .bool, .bool, .bool, .bool, .bool, .bool, .bool, .bool, .bool, .bool, .bool, .bool, .bool, .bool, .bool, .row (.int .u8), .row (.int .u8), .row (.int .u8), .row (.int .u8), .row (.int .u8), .row (.int .u8), .row (.int .u8), .row (.int .u8), .row (.int .u8), .row (.int .u8), .row (.int .u8), .row (.int .u8), .row (.int .u8), .row (.int .u8), .row (.int .u8), .row (.int .u8)])]⟩
def f9.outs : List Shape := [⟨[(0, n6)], [(0, .box [.int .i64, .bool, .bool, .bool, .bool, .bool, .bool, .bool, .bool, .bool, .bool, .bool, .bool, .bool, .bool, .bool, .bool, .row (.int .u8), .row (.int .u8), .row (.int .u8), .row (.int .u8), .row (.int .u8), .row (.int .u8), .row (.int .u8), .row (.int .u8), .row (.int .u8), .row (.int .u8), .row (.int .u8), .row (.int .u8), .row (.int .u8), .row (.int .u8), .row (.int .u8), .row (.int .u8)])]⟩]
def f9.S : FnSpec := ⟨f9.ins, f9.outs, [0], fun x => f9 x.1 x.2.1 x.2.2.1 x.2.2.2.1 x.2.2.2.2.1 x.2.2.2.2.2.1 x.2.2.2.2.2.2.1 x.2.2.2.2.2.2.2.1 x.2.2.2.2.2.2.2.2.1 x.2.2.2.2.2.2.2.2.2.1 x.2.2.2.2.2.2.2.2.2.2.1 x.2.2.2.2.2.2.2.2.2.2.2.1 x.2.2.2.2.2.2.2.2.2.2.2.2.1 x.2.2.2.2.2.2.2.2.2.2.2.2.2.1 x.2.2.2.2.2.2.2.2.2.2.2.2.2.2.1 x.2.2.2.2.2.2.2.2.2.2.2.2.2.2.2.1 x.2.2.2.2.2.2.2.2.2.2.2.2.2.2.2.2.1 x.2.2.2.2.2.2.2.2.2.2.2.2.2.2.2.2.2.1 x.2.2.2.2.2.2.2.2.2.2.2.2.2.2.2.2.2.2.1 x.2.2.2.2.2.2.2.2.2.2.2.2.2.2.2.2.2.2.2.1 x.2.2.2.2.2.2.2.2.2.2.2.2.2.2.2.2.2.2.2.2.1 x.2.2.2.2.2.2.2.2.2.2.2.2.2.2.2.2.2.2.2.2.2.1 x.2.2.2.2.2.2.2.2.2.2.2.2.2.2.2.2.2.2.2.2.2.2.1 x.2.2.2.2.2.2.2.2.2.2.2.2.2.2.2.2.2.2.2.2.2.2.2.1 x.2.2.2.2.2.2.2.2.2.2.2.2.2.2.2.2.2.2.2.2.2.2.2.2.1 x.2.2.2.2.2.2.2.2.2.2.2.2.2.2.2.2.2.2.2.2.2.2.2.2.2.1 x.2.2.2.2.2.2.2.2.2.2.2.2.2.2.2.2.2.2.2.2.2.2.2.2.2.2.1 x.2.2.2.2.2.2.2.2.2.2.2.2.2.2.2.2.2.2.2.2.2.2.2.2.2.2.2.1 x.2.2.2.2.2.2.2.2.2.2.2.2.2.2.2.2.2.2.2.2.2.2.2.2.2.2.2.2.1 x.2.2.2.2.2.2.2.2.2.2.2.2.2.2.2.2.2.2.2.2.2.2.2.2.2.2.2.2.2.1 x.2.2.2.2.2.2.2.2.2.2.2.2.2.2.2.2.2.2.2.2.2.2.2.2.2.2.2.2.2.2.1 x.2.2.2.2.2.2.2.2.2.2.2.2.2.2.2.2.2.2.2.2.2.2.2.2.2.2.2.2.2.2.2.1 x.2.2.2.2.2.2.2.2.2.2.2.2.2.2.2.2.2.2.2.2.2.2.2.2.2.2.2.2.2.2.2.2.1 x.2.2.2.2.2.2.2.2.2.2.2.2.2.2.2.2.2.2.2.2.2.2.2.2.2.2.2.2.2.2.2.2.2.1 x.2.2.2.2.2.2.2.2.2.2.2.2.2.2.2.2.2.2.2.2.2.2.2.2.2.2.2.2.2.2.2.2.2.2.1 x.2.2.2.2.2.2.2.2.2.2.2.2.2.2.2.2.2.2.2.2.2.2.2.2.2.2.2.2.2.2.2.2.2.2.2.1⟩
def f9.E (fuel : Nat) : Env := ⟨tis, [], [], [(6, ⟨[(0, .c (.ptr 0 0)), (1, n6), (2, n6), (3, r8)], [(0, .box [.int .i64, .bool, .bool, .bool, .bool, .bool, .bool, .bool, .bool, .bool, .bool, .bool, .bool, .bool, .bool, .bool, .bool, .row (.int .u8), .row (.int .u8), .row (.int .u8), .row (.int .u8), .row (.int .u8), .row (.int .u8), .row (.int .u8), .row (.int .u8), .row (.int .u8), .row (.int .u8), .row (.int .u8), .row (.int .u8), .row (.int .u8), .row (.int .u8), .row (.int .u8), .row (.int .u8)])]⟩)], [], [], 1, [0], fuel⟩
theorem f9.run : RunOk f9.E Go.Proofs.Try.f9 f9.S := by intro x; kernel_rfl
theorem f9.sound : Sound Go.Proofs.Try.prog 9 f9.S := sound_of_run (fun _ => f9.E 100000000000000000000) (by kernel_rfl) (by kernel_rfl) (by kernel_rfl) orders (fun _ => ⟨tis_ok, EqsOk.nil _, FnsOk.nil⟩) (fun _ => rfl) (by kernel_rfl) (by kernel_rfl) (fun x r h => (f9.run x).trans h)
/-! f10: (*adit/chunk.Taker).Bits -/
def f10 (a0 : (List Int × List Int × List Int × List Int × List Int × List Int × List Int × List Int × List Int × List Int × List Int × List Int × List Int × List Int × List Int × List Int) × Int × Int) : Option (Int × Unit) :=
 some ((a0.2.1, ()))
def f10.ins : Shape := ⟨[(0, .c (.bptr (.prod (.prod (.row (.int .u8)) (.prod (.row (.int .u8)) (.prod (.row (.int .u8)) (.prod (.row (.int .u8)) (.prod (.row (.int .u8)) (.prod (.row (.int .u8)) (.prod (.row (.int .u8)) (.prod (.row (.int .u8)) (.prod (.row (.int .u8)) (.prod (.row (.int .u8)) (.prod (.row (.int .u8)) (.prod (.row (.int .u8)) (.prod (.row (.int .u8)) (.prod (.row (.int .u8)) (.prod (.row (.int .u8)) (.row (.int .u8))))))))))))))))) (.prod (.int .u32) (.int .i64)))))], []⟩
def f10.outs : List Shape := [⟨[(0, .c (.int .u32))], []⟩]
def f10.S : FnSpec := ⟨f10.ins, f10.outs, [], fun x => f10 x.1⟩
def f10.E (fuel : Nat) : Env := ⟨tis, [], [], [], [], [], 0, [], fuel⟩
theorem f10.run : RunOk f10.E Go.Proofs.Try.f10 f10.S := by intro x; kernel_rfl
theorem f10.sound : Sound Go.Proofs.Try.prog 10 f10.S := sound_of_run (fun _ => f10.E 100000000000000000000) (by kernel_rfl) (by kernel_rfl) (by kernel_rfl) orders (fun _ => ⟨tis_ok, EqsOk.nil _, FnsOk.nil⟩) (fun _ => rfl) (by kernel_rfl) (by kernel_rfl) (fun x r h => (f10.run x).trans h)
/-! f11: (*adit/aditref12.Taker).Bits -/
def f11.L1 (x : Int × Int × Int × Bool × Bool × Bool × Bool × Bool × Bool × Bool × Bool × Bool × Bool × Bool × Bool × Bool × Bool × Bool × Bool × List Int × List Int × List Int × List Int × List Int × List Int × List Int × List Int × List Int × List Int × List Int × List Int × List Int × List Int × List Int × List Int × Unit) : Option (Int × Int × Bool × Bool × Bool × Bool × Bool × Bool × Bool × Bool × Bool × Bool × Bool × Bool × Bool × Bool × Bool × Bool × List Int × List Int × List Int × List Int × List Int × List Int × List Int × List Int × List Int × List Int × List Int × List Int × List Int × List Int × List Int × List Int × Unit) :=
 it (X := Int × Int × Int × Bool × Bool × Bool × Bool × Bool × Bool × Bool × Bool × Bool × Bool × Bool × Bool × Bool × Bool × Bool × Bool × List Int × List Int × List Int × List Int × List Int × List Int × List Int × List Int × List Int × List Int × List Int × List Int × List Int × List Int × List Int × List Int × Unit) (fun rec x => match x with
 | (v0, v1, v2, v3, v4, v5, v6, v7, v8, v9, v10, v11, v12, v13, v14, v15, v16, v17, v18, v19, v20, v21, v22, v23, v24, v25, v26, v27, v28, v29, v30, v31, v32, v33, v34, _) =>
 bif decide (v1 < 16) then
 bif inRange v1 16 then
 bif List.getD [v3, v4, v5, v6, v7, v8, v9, v10, v11, v12, v13, v14, v15, v16, v17, v18] (Int.toNat v1) Bool.false then
 bif decide (v1 < 0) then
 none
 else
 rec (IntKind.wrap .u32 (↑(BitVec.toNat (BitVec.ofInt (IntKind.bits IntKind.u32) v0 ||| BitVec.ofInt (IntKind.bits IntKind.u32) (IntKind.wrap .u32 (1 * 2 ^ Min.min (Int.toNat v1) (IntKind.bits IntKind.u32))))) : Int), IntKind.wrap .i64 (v1 + 1), v2, v3, v4, v5, v6, v7, v8, v9, v10, v11, v12, v13, v14, v15, v16, v17, v18, v19, v20, v21, v22, v23, v24, v25, v26, v27, v28, v29, v30, v31, v32, v33, v34, ())
 else
 rec (v0, IntKind.wrap .i64 (v1 + 1), v2, v3, v4, v5, v6, v7, v8, v9, v10, v11, v12, v13, v14, v15, v16, v17, v18, v19, v20, v21, v22, v23, v24, v25, v26, v27, v28, v29, v30, v31, v32, v33, v34, ())
 else
 none
 else
 some ((v0, v2, v3, v4, v5, v6, v7, v8, v9, v10, v11, v12, v13, v14, v15, v16, v17, v18, v19, v20, v21, v22, v23, v24, v25, v26, v27, v28, v29, v30, v31, v32, v33, v34, ()))
 ) (100000000000000000000) (x)
def f11 (a0 : Int) (a1 : Bool) (a2 : Bool) (a3 : Bool) (a4 : Bool) (a5 : Bool) (a6 : Bool) (a7 : Bool) (a8 : Bool) (a9 : Bool) (a10 : Bool) (a11 : Bool) (a12 : Bool) (a13 : Bool) (a14 : Bool) (a15 : Bool) (a16 : Bool) (a17 : List Int) (a18 : List Int) (a19 : List Int) (a20 : List Int) (a21 : List Int) (a22 : List Int) (a23 : List Int) (a24 : List Int) (a25 : List Int) (a26 : List Int) (a27 : List Int) (a28 : List Int) (a29 : List Int) (a30 : List Int) (a31 : List Int) (a32 : List Int) : Option (Int × Int × Bool × Bool × Bool × Bool × Bool × Bool × Bool × Bool × Bool × Bool × Bool × Bool × Bool × Bool × Bool × Bool × List Int × List Int × List Int × List Int × List Int × List Int × List Int × List Int × List Int × List Int × List Int × List Int × List Int × List Int × List Int × List Int × Unit) :=
 f11.L1 ((0, 0, a0, a1, a2, a3, a4, a5, a6, a7, a8, a9, a10, a11, a12, a13, a14, a15, a16, a17, a18, a19, a20, a21, a22, a23, a24, a25, a26, a27, a28, a29, a30, a31, a32, ()))
def f11.ins : Shape := ⟨[(0, .c (.ptr 0 0))], [(0, .box [.int .i64, .bool, .bool, .bool, .bool, .bool, .bool, .bool, .bool, .bool, .bool, .bool, .bool, .bool, .bool, .bool, .bool, .row (.int .u8), .row (.int .u8), .row (.int .u8), .row (.int .u8), .row (.int .u8), .row (.int .u8), .row (.int .u8), .row (.int .u8), .row (.int .u8), .row (.int .u8), .row (.int .u8), .row (.int .u8), .row (.int .u8), .row (.int .u8), .row (.int .u8), .row (.int .u8)])]⟩
def f11.outs : List Shape := [⟨[(0, .c (.int .u32))], [(0, .box [.int .i64, .bool, .bool, .bool, .bool, .bool, .bool, .bool, .bool, .bool, .bool, .bool, .bool, .bool, .bool, .bool, .bool, .row (.int .u8), .row (.int .u8), .row (.int .u8), .row (.int .u8), .row (.int .u8), .row (.int .u8), .row (.int .u8), .row (.int .u8), .row (.int .u8), .row (.int .u8), .row (.int .u8), .row (.int .u8), .row (.int .u8), .row (.int .u8), .row (.int .u8), .row (.int .u8)])]⟩]
def f11.S : FnSpec := ⟨f11.ins, f11.outs, [0], fun x => f11 x.1 x.2.1 x.2.2.1 x.2.2.2.1 x.2.2.2.2.1 x.2.2.2.2.2.1 x.2.2.2.2.2.2.1 x.2.2.2.2.2.2.2.1 x.2.2.2.2.2.2.2.2.1 x.2.2.2.2.2.2.2.2.2.1 x.2.2.2.2.2.2.2.2.2.2.1 x.2.2.2.2.2.2.2.2.2.2.2.1 x.2.2.2.2.2.2.2.2.2.2.2.2.1 x.2.2.2.2.2.2.2.2.2.2.2.2.2.1 x.2.2.2.2.2.2.2.2.2.2.2.2.2.2.1 x.2.2.2.2.2.2.2.2.2.2.2.2.2.2.2.1 x.2.2.2.2.2.2.2.2.2.2.2.2.2.2.2.2.1 x.2.2.2.2.2.2.2.2.2.2.2.2.2.2.2.2.2.1 x.2.2.2.2.2.2.2.2.2.2.2.2.2.2.2.2.2.2.1 x.2.2.2.2.2.2.2.2.2.2.2.2.2.2.2.2.2.2.2.1 x.2.2.2.2.2.2.2.2.2.2.2.2.2.2.2.2.2.2.2.2.1 x.2.2.2.2.2.2.2.2.2.2.2.2.2.2.2.2.2.2.2.2.2.1 x.2.2.2.2.2.2.2.2.2.2.2.2.2.2.2.2.2.2.2.2.2.2.1 x.2.2.2.2.2.2.2.2.2.2.2.2.2.2.2.2.2.2.2.2.2.2.2.1 x.2.2.2.2.2.2.2.2.2.2.2.2.2.2.2.2.2.2.2.2.2.2.2.2.1 x.2.2.2.2.2.2.2.2.2.2.2.2.2.2.2.2.2.2.2.2.2.2.2.2.2.1 x.2.2.2.2.2.2.2.2.2.2.2.2.2.2.2.2.2.2.2.2.2.2.2.2.2.2.1 x.2.2.2.2.2.2.2.2.2.2.2.2.2.2.2.2.2.2.2.2.2.2.2.2.2.2.2.1 x.2.2.2.2.2.2.2.2.2.2.2.2.2.2.2.2.2.2.2.2.2.2.2.2.2.2.2.2.1 x.2.2.2.2.2.2.2.2.2.2.2.2.2.2.2.2.2.2.2.2.2.2.2.2.2.2.2.2.2.1 x.2.2.2.2.2.2.2.2.2.2.2.2.2.2.2.2.2.2.2.2.2.2.2.2.2.2.2.2.2.2.1 x.2.2.2.2.2.2.2.2.2.2.2.2.2.2.2.2.2.2.2.2.2.2.2.2.2.2.2.2.2.2.2.1 x.2.2.2.2.2.2.2.2.2.2.2.2.2.2.2.2.2.2.2.2.2.2.2.2.2.2.2.2.2.2.2.2.1⟩
def f11.E (fuel : Nat) : Env := ⟨tis, [], [], [], [(4, ⟨[(0, .c (.ptr 0 0)), (3, .c (.int .u32)), (4, n6)], [(0, .box [.int .i64, .bool, .bool, .bool, .bool, .bool, .bool, .bool, .bool, .bool, .bool, .bool, .bool, .bool, .bool, .bool, .bool, .row (.int .u8), .row (.int .u8), .row (.int .u8), .row (.int .u8), .row (.int .u8), .row (.int .u8), .row (.int .u8), .row (.int .u8), .row (.int .u8), .row (.int .u8), .row (.int .u8), .row (.int .u8), .row (.int .u8), .row (.int .u8), .row (.int .u8), .row (.int .u8)])]⟩)], [], 1, [0], fuel⟩
theorem f11.run : RunOk f11.E Go.Proofs.Try.f11 f11.S := by intro x; kernel_rfl
theorem f11.sound : Sound Go.Proofs.Try.prog 11 f11.S := sound_of_run (fun _ => f11.E 100000000000000000000) (by kernel_rfl) (by kernel_rfl) (by kernel_rfl) orders (fun _ => ⟨tis_ok, EqsOk.nil _, FnsOk.nil⟩) (fun _ => rfl) (by kernel_rfl) (by kernel_rfl) (fun x r h => (f11.run x).trans h)
/-! f23: slices.Grow[[]byte,byte] -/
def f23 (a0 : Int) : Option (List Int × Unit) :=
 bif decide (a0 < 0) then
 none
 else
 Option.bind (α := List Int × Unit ⊕ List Int × Unit) (
 bif decide (IntKind.wrap .i64 (a0 - IntKind.wrap .i64 (0 - 0)) > 0) then
 bif decide (0 < IntKind.wrap .i64 (a0 - IntKind.wrap .i64 (0 - 0)) ∧ IntKind.wrap .i64 (a0 - IntKind.wrap .i64 (0 - 0)) ≤ (↑(limit 1) : Int)) then
 some (Sum.inl (List.take 0 (List.replicate (Int.toNat (IntKind.wrap .i64 (a0 - IntKind.wrap .i64 (0 - 0)))) 0), ()))
 else
 none
 else
 some (Sum.inl ([], ()))
 ) fun y0 =>
 Sum.elim (fun y1 =>
 some ((y1.1, ()))
 ) (fun z2 =>
 some (z2)
 ) (y0)
def f23.ins : Shape := ⟨[(0, .c (.nils)), (1, n6)], []⟩
def f23.outs : List Shape := [⟨[(0, .c (.own 0))], [(0, .arr (.int .u8))]⟩]
def f23.S : FnSpec := ⟨f23.ins, f23.outs, [], fun x => f23 x.1⟩
def f23.E (fuel : Nat) : Env := ⟨tis, [], [], [(7, ⟨[(0, .c (.own 0))], [(0, .arr (.int .u8))]⟩)], [], [(1000000, ⟨[], []⟩)], 0, [], fuel⟩
theorem f23.run : RunOk f23.E Go.Proofs.Try.f23 f23.S := by intro x; kernel_rfl
theorem f23.sound : Sound Go.Proofs.Try.prog 23 f23.S := sound_of_run (fun _ => f23.E 100000000000000000000) (by kernel_rfl) (by kernel_rfl) (by kernel_rfl) orders (fun _ => ⟨tis_ok, EqsOk.nil _, FnsOk.nil⟩) (fun _ => rfl) (by kernel_rfl) (by kernel_rfl) (fun x r h => (f23.run x).trans h)
/-! f21: slices.Concat[[]byte,byte] -/
def f21.L1 (x : List (List Int) × Int × Int × List Int × Unit) : Option (List Int × Unit) :=
 it (X := List (List Int) × Int × Int × List Int × Unit) (fun rec x =>
 bif decide (x.2.2.1 < x.2.1) then
 bif inRange x.2.2.1 (List.length x.1) then
 bif decide (List.length x.2.2.2.1 + List.length (List.getD x.1 (Int.toNat x.2.2.1) []) ≤ limit 1) then
 rec (x.1, x.2.1, IntKind.wrap .i64 (x.2.2.1 + 1), x.2.2.2.1 ++ List.getD x.1 (Int.toNat x.2.2.1) [], ())
 else
 none
 else
 none
 else
 some ((x.2.2.2.1, ()))
 ) (100000000000000000000) (x)
def f21.L2 (x : List (List Int) × Int × List (List Int) × Int × Int × Unit) : Option (List Int × Unit) :=
 it (X := List (List Int) × Int × List (List Int) × Int × Int × Unit) (fun rec x =>
 bif decide (x.2.2.2.2.1 < x.2.2.2.1) then
 bif inRange x.2.2.2.2.1 (List.length x.2.2.1) then
 bif decide (IntKind.wrap .i64 (x.2.1 + (↑(List.length (List.getD x.2.2.1 (Int.toNat x.2.2.2.2.1) [])) : Int)) < 0) then
 none
 else
 rec (x.1, IntKind.wrap .i64 (x.2.1 + (↑(List.length (List.getD x.2.2.1 (Int.toNat x.2.2.2.2.1) [])) : Int)), x.2.2.1, x.2.2.2.1, IntKind.wrap .i64 (x.2.2.2.2.1 + 1), ())
 else
 none
 else
 Option.bind (f23 x.2.1) fun y0 =>
 f21.L1 ((x.1, (↑(List.length x.1) : Int), 0, y0.1, ()))
 ) (100000000000000000000) (x)
def f21 (a0 : List (List Int)) : Option (List Int × Unit) :=
 f21.L2 ((a0, 0, a0, (↑(List.length a0) : Int), 0, ()))
def f21.ins : Shape := ⟨[(0, .c (.row (.row (.int .u8))))], []⟩
def f21.outs : List Shape := [⟨[(0, .c (.own 0))], [(0, .arr (.int .u8))]⟩]
def f21.S : FnSpec := ⟨f21.ins, f21.outs, [], fun x => f21 x.1⟩
def f21.E (fuel : Nat) : Env := ⟨tis, [(23, f23.S)], [], [], [(4, ⟨[(0, .c (.row (.row (.int .u8)))), (3, n6), (9, .c (.row (.row (.int .u8)))), (10, n6), (11, n6)], []⟩), (12, ⟨[(6, .c (.own 0)), (25, .c (.row (.row (.int .u8)))), (26, n6), (27, n6)], [(0, .arr (.int .u8))]⟩)], [], 0, [], fuel⟩
theorem f21.run : RunOk f21.E Go.Proofs.Try.f21 f21.S := by intro x; kernel_rfl
theorem f21.sound : Sound Go.Proofs.Try.prog 21 f21.S := sound_of_run (fun _ => f21.E 100000000000000000000) (by kernel_rfl) (by kernel_rfl) (by kernel_rfl) orders (fun _ => ⟨tis_ok, EqsOk.nil _, (fc f23.sound FnsOk.nil)⟩) (fun _ => rfl) (by kernel_rfl) (by kernel_rfl) (fun x r h => (f21.run x).trans h)
/-! f12: (*adit/chunk.Taker).Whole -/
def f12 (a0 : List Int) (a1 : List Int) (a2 : List Int) (a3 : List Int) (a4 : List Int) (a5 : List Int) (a6 : List Int) (a7 : List Int) (a8 : List Int) (a9 : List Int) (a10 : List Int) (a11 : List Int) (a12 : List Int) (a13 : List Int) (a14 : List Int) (a15 : List Int) (a16 : Int) (a17 : Int) : Option (Bool × List Int × List Int × List Int × List Int × List Int × List Int × List Int × List Int × List Int × List Int × List Int × List Int × List Int × List Int × List Int × List Int × Int × Int × List Int × Unit) :=
 bif a17 == 0 then
 some ((Bool.false, a0, a1, a2, a3, a4, a5, a6, a7, a8, a9, a10, a11, a12, a13, a14, a15, a16, a17, [], ()))
 else
 bif decide (a17 < 0) then
 none
 else
 bif a16 != IntKind.wrap .u32 (IntKind.wrap .u32 (1 * 2 ^ Min.min (Int.toNat a17) (IntKind.bits IntKind.u32)) - 1) then
 some ((Bool.false, a0, a1, a2, a3, a4, a5, a6, a7, a8, a9, a10, a11, a12, a13, a14, a15, a16, a17, [], ()))
 else
 bif decide ((0 : Int) ≤ 0 ∧ 0 ≤ a17 ∧ a17 ≤ (↑16 : Int)) then
 Option.bind (f21 (List.drop 0 (List.take (Int.toNat a17) [a0, a1, a2, a3, a4, a5, a6, a7, a8, a9, a10, a11, a12, a13, a14, a15]))) fun y0 =>
 some ((Bool.true, a0, a1, a2, a3, a4, a5, a6, a7, a8, a9, a10, a11, a12, a13, a14, a15, a16, a17, y0.1, ()))
 else
 none
def f12.ins : Shape := ⟨[(0, .c (.ptr 0 0))], [(0, .box [.row (.int .u8), .row (.int .u8), .row (.int .u8), .row (.int .u8), .row (.int .u8), .row (.int .u8), .row (.int .u8), .row (.int .u8), .row (.int .u8), .row (.int .u8), .row (.int .u8), .row (.int .u8), .row (.int .u8), .row (.int .u8), .row (.int .u8), .row (.int .u8), .int .u32, .int .i64])]⟩
def f12.outs : List Shape := [⟨[(0, .c (.own 1)), (1, .c (.bool))], [(0, .box [.row (.int .u8), .row (.int .u8), .row (.int .u8), .row (.int .u8), .row (.int .u8), .row (.int .u8), .row (.int .u8), .row (.int .u8), .row (.int .u8), .row (.int .u8), .row (.int .u8), .row (.int .u8), .row (.int .u8), .row (.int .u8), .row (.int .u8), .row (.int .u8), .int .u32, .int .i64]), (1, .arr (.int .u8))]⟩]
def f12.S : FnSpec := ⟨f12.ins, f12.outs, [0], fun x => f12 x.1 x.2.1 x.2.2.1 x.2.2.2.1 x.2.2.2.2.1 x.2.2.2.2.2.1 x.2.2.2.2.2.2.1 x.2.2.2.2.2.2.2.1 x.2.2.2.2.2.2.2.2.1 x.2.2.2.2.2.2.2.2.2.1 x.2.2.2.2.2.2.2.2.2.2.1 x.2.2.2.2.2.2.2.2.2.2.2.1 x.2.2.2.2.2.2.2.2.2.2.2.2.1 x.2.2.2.2.2.2.2.2.2.2.2.2.2.1 x.2.2.2.2.2.2.2.2.2.2.2.2.2.2.1 x.2.2.2.2.2.2.2.2.2.2.2.2.2.2.2.1 x.2.2.2.2.2.2.2.2.2.2.2.2.2.2.2.2.1 x.2.2.2.2.2.2.2.2.2.2.2.2.2.2.2.2.2.1⟩
def f12.E (fuel : Nat) : Env := ⟨tis, [(21, f21.S)], [], [], [], [], 1, [0], fuel⟩
theorem f12.run : RunOk f12.E Go.Proofs.Try.f12 f12.S := by intro x; kernel_rfl
theorem f12.sound : Sound Go.Proofs.Try.prog 12 f12.S := sound_of_run (fun _ => f12.E 100000000000000000000) (by kernel_rfl) (by kernel_rfl) (by kernel_rfl) orders (fun _ => ⟨tis_ok, EqsOk.nil _, (fc f21.sound FnsOk.nil)⟩) (fun _ => rfl) (by kernel_rfl) (by kernel_rfl) (fun x r h => (f12.run x).trans h)
/-! f13: (*adit/aditref12.Taker).Whole -/
def f13.L1 (x : Int × Int × Bool × Bool × Bool × Bool × Bool × Bool × Bool × Bool × Bool × Bool × Bool × Bool × Bool × Bool × Bool × Bool × List Int × List Int × List Int × List Int × List Int × List Int × List Int × List Int × List Int × List Int × List Int × List Int × List Int × List Int × List Int × List Int × List Int × Unit) : Option (Bool × Int × Bool × Bool × Bool × Bool × Bool × Bool × Bool × Bool × Bool × Bool × Bool × Bool × Bool × Bool × Bool × Bool × List Int × List Int × List Int × List Int × List Int × List Int × List Int × List Int × List Int × List Int × List Int × List Int × List Int × List Int × List Int × List Int × List Int × Unit) :=
 it (X := Int × Int × Bool × Bool × Bool × Bool × Bool × Bool × Bool × Bool × Bool × Bool × Bool × Bool × Bool × Bool × Bool × Bool × List Int × List Int × List Int × List Int × List Int × List Int × List Int × List Int × List Int × List Int × List Int × List Int × List Int × List Int × List Int × List Int × List Int × Unit) (fun rec x => match x with
 | (v0, v1, v2, v3, v4, v5, v6, v7, v8, v9, v10, v11, v12, v13, v14, v15, v16, v17, v18, v19, v20, v21, v22, v23, v24, v25, v26, v27, v28, v29, v30, v31, v32, v33, v34, _) =>
 bif decide (v0 < v1) then
 bif inRange v0 16 then
 bif !List.getD [v2, v3, v4, v5, v6, v7, v8, v9, v10, v11, v12, v13, v14, v15, v16, v17] (Int.toNat v0) Bool.false then
 some ((Bool.false, v1, v2, v3, v4, v5, v6, v7, v8, v9, v10, v11, v12, v13, v14, v15, v16, v17, v18, v19, v20, v21, v22, v23, v24, v25, v26, v27, v28, v29, v30, v31, v32, v33, [], ()))
 else
 bif inRange v0 16 then
 bif decide (List.length v34 + List.length (List.getD [v18, v19, v20, v21, v22, v23, v24, v25, v26, v27, v28, v29, v30, v31, v32, v33] (Int.toNat v0) []) ≤ limit 1) then
 rec (IntKind.wrap .i64 (v0 + 1), v1, v2, v3, v4, v5, v6, v7, v8, v9, v10, v11, v12, v13, v14, v15, v16, v17, v18, v19, v20, v21, v22, v23, v24, v25, v26, v27, v28, v29, v30, v31, v32, v33, v34 ++ List.getD [v18, v19, v20, v21, v22, v23, v24, v25, v26, v27, v28, v29, v30, v31, v32, v33] (Int.toNat v0) [], ())
 else
 none
 else
 none
 else
 none
 else
 some ((decide (v1 > 0), v1, v2, v3, v4, v5, v6, v7, v8, v9, v10, v11, v12, v13, v14, v15, v16, v17, v18, v19, v20, v21, v22, v23, v24, v25, v26, v27, v28, v29, v30, v31, v32, v33, v34, ()))
 ) (100000000000000000000) (x)
def f13 (a0 : Int) (a1 : Bool) (a2 : Bool) (a3 : Bool) (a4 : Bool) (a5 : Bool) (a6 : Bool) (a7 : Bool) (a8 : Bool) (a9 : Bool) (a10 : Bool) (a11 : Bool) (a12 : Bool) (a13 : Bool) (a14 : Bool) (a15 : Bool) (a16 : Bool) (a17 : List Int) (a18 : List Int) (a19 : List Int) (a20 : List Int) (a21 : List Int) (a22 : List Int) (a23 : List Int) (a24 : List Int) (a25 : List Int) (a26 : List Int) (a27 : List Int) (a28 : List Int) (a29 : List Int) (a30 : List Int) (a31 : List Int) (a32 : List Int) : Option (Bool × Int × Bool × Bool × Bool × Bool × Bool × Bool × Bool × Bool × Bool × Bool × Bool × Bool × Bool × Bool × Bool × Bool × List Int × List Int × List Int × List Int × List Int × List Int × List Int × List Int × List Int × List Int × List Int × List Int × List Int × List Int × List Int × List Int × List Int × Unit) :=
 f13.L1 ((0, a0, a1, a2, a3, a4, a5, a6, a7, a8, a9, a10, a11, a12, a13, a14, a15, a16, a17, a18, a19, a20, a21, a22, a23, a24, a25, a26, a27, a28, a29, a30, a31, a32, [], ()))
def f13.ins : Shape := ⟨[(0, .c (.ptr 0 0))], [(0, .box [.int .i64, .bool, .bool, .bool, .bool, .bool, .bool, .bool, .bool, .bool, .bool, .bool, .bool, .bool, .bool, .bool, .bool, .row (.int .u8), .row (.int .u8), .row (.int .u8), .row (.int .u8), .row (.int .u8), .row (.int .u8), .row (.int .u8), .row (.int .u8), .row (.int .u8), .row (.int .u8), .row (.int .u8), .row (.int .u8), .row (.int .u8), .row (.int .u8), .row (.int .u8), .row (.int .u8)])]⟩
def f13.outs : List Shape := [⟨[(0, .c (.own 1)), (1, .c (.bool))], [(0, .box [.int .i64, .bool, .bool, .bool, .bool, .bool, .bool, .bool, .bool, .bool, .bool, .bool, .bool, .bool, .bool, .bool, .bool, .row (.int .u8), .row (.int .u8), .row (.int .u8), .row (.int .u8), .row (.int .u8), .row (.int .u8), .row (.int .u8), .row (.int .u8), .row (.int .u8), .row (.int .u8), .row (.int .u8), .row (.int .u8), .row (.int .u8), .row (.int .u8), .row (.int .u8), .row (.int .u8)]), (1, .arr (.int .u8))]⟩]
def f13.S : FnSpec := ⟨f13.ins, f13.outs, [0], fun x => f13 x.1 x.2.1 x.2.2.1 x.2.2.2.1 x.2.2.2.2.1 x.2.2.2.2.2.1 x.2.2.2.2.2.2.1 x.2.2.2.2.2.2.2.1 x.2.2.2.2.2.2.2.2.1 x.2.2.2.2.2.2.2.2.2.1 x.2.2.2.2.2.2.2.2.2.2.1 x.2.2.2.2.2.2.2.2.2.2.2.1 x.2.2.2.2.2.2.2.2.2.2.2.2.1 x.2.2.2.2.2.2.2.2.2.2.2.2.2.1 x.2.2.2.2.2.2.2.2.2.2.2.2.2.2.1 x.2.2.2.2.2.2.2.2.2.2.2.2.2.2.2.1 x.2.2.2.2.2.2.2.2.2.2.2.2.2.2.2.2.1 x.2.2.2.2.2.2.2.2.2.2.2.2.2.2.2.2.2.1 x.2.2.2.2.2.2.2.2.2.2.2.2.2.2.2.2.2.2.1 x.2.2.2.2.2.2.2.2.2.2.2.2.2.2.2.2.2.2.2.1 x.2.2.2.2.2.2.2.2.2.2.2.2.2.2.2.2.2.2.2.2.1 x.2.2.2.2.2.2.2.2.2.2.2.2.2.2.2.2.2.2.2.2.2.1 x.2.2.2.2.2.2.2.2.2.2.2.2.2.2.2.2.2.2.2.2.2.2.1 x.2.2.2.2.2.2.2.2.2.2.2.2.2.2.2.2.2.2.2.2.2.2.2.1 x.2.2.2.2.2.2.2.2.2.2.2.2.2.2.2.2.2.2.2.2.2.2.2.2.1 x.2.2.2.2.2.2.2.2.2.2.2.2.2.2.2.2.2.2.2.2.2.2.2.2.2.1 x.2.2.2.2.2.2.2.2.2.2.2.2.2.2.2.2.2.2.2.2.2.2.2.2.2.2.1 x.2.2.2.2.2.2.2.2.2.2.2.2.2.2.2.2.2.2.2.2.2.2.2.2.2.2.2.1 x.2.2.2.2.2.2.2.2.2.2.2.2.2.2.2.2.2.2.2.2.2.2.2.2.2.2.2.2.1 x.2.2.2.2.2.2.2.2.2.2.2.2.2.2.2.2.2.2.2.2.2.2.2.2.2.2.2.2.2.1 x.2.2.2.2.2.2.2.2.2.2.2.2.2.2.2.2.2.2.2.2.2.2.2.2.2.2.2.2.2.2.1 x.2.2.2.2.2.2.2.2.2.2.2.2.2.2.2.2.2.2.2.2.2.2.2.2.2.2.2.2.2.2.2.1 x.2.2.2.2.2.2.2.2.2.2.2.2.2.2.2.2.2.2.2.2.2.2.2.2.2.2.2.2.2.2.2.2.1⟩
def f13.E (fuel : Nat) : Env := ⟨tis, [], [], [], [(4, ⟨[(0, .c (.ptr 0 0)), (4, .c (.own 1)), (5, n6)], [(0, .box [.int .i64, .bool, .bool, .bool, .bool, .bool, .bool, .bool, .bool, .bool, .bool, .bool, .bool, .bool, .bool, .bool, .bool, .row (.int .u8), .row (.int .u8), .row (.int .u8), .row (.int .u8), .row (.int .u8), .row (.int .u8), .row (.int .u8), .row (.int .u8), .row (.int .u8), .row (.int .u8), .row (.int .u8), .row (.int .u8), .row (.int .u8), .row (.int .u8), .row (.int .u8), .row (.int .u8)]), (1, .arr (.int .u8))]⟩)], [], 1, [0], fuel⟩
theorem f13.run : RunOk f13.E Go.Proofs.Try.f13 f13.S := by intro x; kernel_rfl
theorem f13.sound : Sound Go.Proofs.Try.prog 13 f13.S := sound_of_run (fun _ => f13.E 100000000000000000000) (by kernel_rfl) (by kernel_rfl) (by kernel_rfl) orders (fun _ => ⟨tis_ok, EqsOk.nil _, FnsOk.nil⟩) (fun _ => rfl) (by kernel_rfl) (by kernel_rfl) (fun x r h => (f13.run x).trans h)
/-! f3: adit/aditlaw12.ChunkTakes -/
def f3.L1 (k0 : List (Int × Int × List Int) × Int × List Int × List Int × List Int × List Int × List Int × List Int × List Int × List Int × List Int × List Int × List Int × List Int × List Int × List Int × List Int × List Int × Int × Int × Int × Bool × Bool × Bool × Bool × Bool × Bool × Bool × Bool × Bool × Bool × Bool × Bool × Bool × Bool × Bool × Bool × List Int × List Int × List Int × List Int × List Int × List Int × List Int × List Int × List Int × List Int × List Int × List Int × List Int × List Int × List Int × List Int × Unit → Option (Bool × Unit)) (x : List (Int × Int × List Int) × Int × Int × List Int × List Int × List Int × List Int × List Int × List Int × List Int × List Int × List Int × List Int × List Int × List Int × List Int × List Int × List Int × List Int × Int × Int × Int × Bool × Bool × Bool × Bool × Bool × Bool × Bool × Bool × Bool × Bool × Bool × Bool × Bool × Bool × Bool × Bool × List Int × List Int × List Int × List Int × List Int × List Int × List Int × List Int × List Int × List Int × List Int × List Int × List Int × List Int × List Int × List Int × List Int × Unit) : Option (Bool × Unit) :=
 it (X := List (Int × Int × List Int) × Int × Int × List Int × List Int × List Int × List Int × List Int × List Int × List Int × List Int × List Int × List Int × List Int × List Int × List Int × List Int × List Int × List Int × Int × Int × Int × Bool × Bool × Bool × Bool × Bool × Bool × Bool × Bool × Bool × Bool × Bool × Bool × Bool × Bool × Bool × Bool × List Int × List Int × List Int × List Int × List Int × List Int × List Int × List Int × List Int × List Int × List Int × List Int × List Int × List Int × List Int × List Int × List Int × Unit) (fun rec x => match x with
 | (v0, v1, v2, v3, v4, v5, v6, v7, v8, v9, v10, v11, v12, v13, v14, v15, v16, v17, v18, v19, v20, v21, v22, v23, v24, v25, v26, v27, v28, v29, v30, v31, v32, v33, v34, v35, v36, v37, v38, v39, v40, v41, v42, v43, v44, v45, v46, v47, v48, v49, v50, v51, v52, v53, v54, _) =>
 bif decide (v2 < (↑(List.length v54) : Int)) then
 bif inRange v2 (List.length v54) then
 rec (v0, v1, IntKind.wrap .i64 (v2 + 1), v3, v4, v5, v6, v7, v8, v9, v10, v11, v12, v13, v14, v15, v16, v17, v18, v19, v20, v21, v22, v23, v24, v25, v26, v27, v28, v29, v30, v31, v32, v33, v34, v35, v36, v37, v38, v39, v40, v41, v42, v43, v44, v45, v46, v47, v48, v49, v50, v51, v52, v53, List.set v54 (Int.toNat v2) 238, ())
 else
 none
 else
 Option.bind (f12 v3 v4 v5 v6 v7 v8 v9 v10 v11 v12 v13 v14 v15 v16 v17 v18 v19 v20) fun y0 =>
 Option.bind (f13 v21 v22 v23 v24 v25 v26 v27 v28 v29 v30 v31 v32 v33 v34 v35 v36 v37 v38 v39 v40 v41 v42 v43 v44 v45 v46 v47 v48 v49 v50 v51 v52 v53) fun y1 =>
 bif !ByteArray.toList (bytesOf y0.2.2.2.2.2.2.2.2.2.2.2.2.2.2.2.2.2.2.2.1) == ByteArray.toList (bytesOf y1.2.2.2.2.2.2.2.2.2.2.2.2.2.2.2.2.2.2.2.2.2.2.2.2.2.2.2.2.2.2.2.2.2.2.1) then
 some ((Bool.false, ()))
 else
 bif !y0.1 == y1.1 then
 some ((Bool.false, ()))
 else
 k0 (v0, IntKind.wrap .i64 (v1 + 1), y0.2.1, y0.2.2.1, y0.2.2.2.1, y0.2.2.2.2.1, y0.2.2.2.2.2.1, y0.2.2.2.2.2.2.1, y0.2.2.2.2.2.2.2.1, y0.2.2.2.2.2.2.2.2.1, y0.2.2.2.2.2.2.2.2.2.1, y0.2.2.2.2.2.2.2.2.2.2.1, y0.2.2.2.2.2.2.2.2.2.2.2.1, y0.2.2.2.2.2.2.2.2.2.2.2.2.1, y0.2.2.2.2.2.2.2.2.2.2.2.2.2.1, y0.2.2.2.2.2.2.2.2.2.2.2.2.2.2.1, y0.2.2.2.2.2.2.2.2.2.2.2.2.2.2.2.1, y0.2.2.2.2.2.2.2.2.2.2.2.2.2.2.2.2.1, y0.2.2.2.2.2.2.2.2.2.2.2.2.2.2.2.2.2.1, y0.2.2.2.2.2.2.2.2.2.2.2.2.2.2.2.2.2.2.1, y1.2.1, y1.2.2.1, y1.2.2.2.1, y1.2.2.2.2.1, y1.2.2.2.2.2.1, y1.2.2.2.2.2.2.1, y1.2.2.2.2.2.2.2.1, y1.2.2.2.2.2.2.2.2.1, y1.2.2.2.2.2.2.2.2.2.1, y1.2.2.2.2.2.2.2.2.2.2.1, y1.2.2.2.2.2.2.2.2.2.2.2.1, y1.2.2.2.2.2.2.2.2.2.2.2.2.1, y1.2.2.2.2.2.2.2.2.2.2.2.2.2.1, y1.2.2.2.2.2.2.2.2.2.2.2.2.2.2.1, y1.2.2.2.2.2.2.2.2.2.2.2.2.2.2.2.1, y1.2.2.2.2.2.2.2.2.2.2.2.2.2.2.2.2.1, y1.2.2.2.2.2.2.2.2.2.2.2.2.2.2.2.2.2.1, y1.2.2.2.2.2.2.2.2.2.2.2.2.2.2.2.2.2.2.1, y1.2.2.2.2.2.2.2.2.2.2.2.2.2.2.2.2.2.2.2.1, y1.2.2.2.2.2.2.2.2.2.2.2.2.2.2.2.2.2.2.2.2.1, y1.2.2.2.2.2.2.2.2.2.2.2.2.2.2.2.2.2.2.2.2.2.1, y1.2.2.2.2.2.2.2.2.2.2.2.2.2.2.2.2.2.2.2.2.2.2.1, y1.2.2.2.2.2.2.2.2.2.2.2.2.2.2.2.2.2.2.2.2.2.2.2.1, y1.2.2.2.2.2.2.2.2.2.2.2.2.2.2.2.2.2.2.2.2.2.2.2.2.1, y1.2.2.2.2.2.2.2.2.2.2.2.2.2.2.2.2.2.2.2.2.2.2.2.2.2.1, y1.2.2.2.2.2.2.2.2.2.2.2.2.2.2.2.2.2.2.2.2.2.2.2.2.2.2.1, y1.2.2.2.2.2.2.2.2.2.2.2.2.2.2.2.2.2.2.2.2.2.2.2.2.2.2.2.1, y1.2.2.2.2.2.2.2.2.2.2.2.2.2.2.2.2.2.2.2.2.2.2.2.2.2.2.2.2.1, y1.2.2.2.2.2.2.2.2.2.2.2.2.2.2.2.2.2.2.2.2.2.2.2.2.2.2.2.2.2.1, y1.2.2.2.2.2.2.2.2.2.2.2.2.2.2.2.2.2.2.2.2.2.2.2.2.2.2.2.2.2.2.1, y1.2.2.2.2.2.2.2.2.2.2.2.2.2.2.2.2.2.2.2.2.2.2.2.2.2.2.2.2.2.2.2.1, y1.2.2.2.2.2.2.2.2.2.2.2.2.2.2.2.2.2.2.2.2.2.2.2.2.2.2.2.2.2.2.2.2.1, y1.2.2.2.2.2.2.2.2.2.2.2.2.2.2.2.2.2.2.2.2.2.2.2.2.2.2.2.2.2.2.2.2.2.1, ())
 ) (100000000000000000000) (x)
def f3.L2 (x : List (Int × Int × List Int) × Int × List Int × List Int × List Int × List Int × List Int × List Int × List Int × List Int × List Int × List Int × List Int × List Int × List Int × List Int × List Int × List Int × Int × Int × Int × Bool × Bool × Bool × Bool × Bool × Bool × Bool × Bool × Bool × Bool × Bool × Bool × Bool × Bool × Bool × Bool × List Int × List Int × List Int × List Int × List Int × List Int × List Int × List Int × List Int × List Int × List Int × List Int × List Int × List Int × List Int × List Int × Unit) : Option (Bool × Unit) :=
 it (X := List (Int × Int × List Int) × Int × List Int × List Int × List Int × List Int × List Int × List Int × List Int × List Int × List Int × List Int × List Int × List Int × List Int × List Int × List Int × List Int × Int × Int × Int × Bool × Bool × Bool × Bool × Bool × Bool × Bool × Bool × Bool × Bool × Bool × Bool × Bool × Bool × Bool × Bool × List Int × List Int × List Int × List Int × List Int × List Int × List Int × List Int × List Int × List Int × List Int × List Int × List Int × List Int × List Int × List Int × Unit) (fun rec x => match x with
 | (v0, v1, v2, v3, v4, v5, v6, v7, v8, v9, v10, v11, v12, v13, v14, v15, v16, v17, v18, v19, v20, v21, v22, v23, v24, v25, v26, v27, v28, v29, v30, v31, v32, v33, v34, v35, v36, v37, v38, v39, v40, v41, v42, v43, v44, v45, v46, v47, v48, v49, v50, v51, v52, _) =>
 bif decide (v1 < (↑(List.length v0) : Int)) then
 bif decide (v1 < 60) then
 bif inRange v1 (List.length v0) then
 bif decide ((↑(List.length (List.getD v0 (Int.toNat v1) (0, 0, [])).2.2) : Int) > 300) then
 rec (v0, IntKind.wrap .i64 (v1 + 1), v2, v3, v4, v5, v6, v7, v8, v9, v10, v11, v12, v13, v14, v15, v16, v17, v18, v19, v20, v21, v22, v23, v24, v25, v26, v27, v28, v29, v30, v31, v32, v33, v34, v35, v36, v37, v38, v39, v40, v41, v42, v43, v44, v45, v46, v47, v48, v49, v50, v51, v52, ())
 else
 bif inRange v1 (List.length v0) then
 bif decide (0 + List.length (List.getD v0 (Int.toNat v1) (0, 0, [])).2.2 ≤ limit 1) then
 bif inRange v1 (List.length v0) then
 bif inRange v1 (List.length v0) then
 Option.bind (f8_1 (List.getD v0 (Int.toNat v1) (0, 0, [])).1 (List.getD v0 (Int.toNat v1) (0, 0, [])).2.1 v2 v3 v4 v5 v6 v7 v8 v9 v10 v11 v12 v13 v14 v15 v16 v17 v18 v19 (List.getD v0 (Int.toNat v1) (0, 0, [])).2.2) fun y0 =>
 bif inRange v1 (List.length v0) then
 bif inRange v1 (List.length v0) then
 bif inRange v1 (List.length v0) then
 Option.bind (f9 (List.getD v0 (Int.toNat v1) (0, 0, [])).1 (List.getD v0 (Int.toNat v1) (0, 0, [])).2.1 (List.getD v0 (Int.toNat v1) (0, 0, [])).2.2 v20 v21 v22 v23 v24 v25 v26 v27 v28 v29 v30 v31 v32 v33 v34 v35 v36 v37 v38 v39 v40 v41 v42 v43 v44 v45 v46 v47 v48 v49 v50 v51 v52) fun y1 =>
 bif y0.1 != y1.1 then
 some ((Bool.false, ()))
 else
 Option.bind (f10 ((y0.2.1, y0.2.2.1, y0.2.2.2.1, y0.2.2.2.2.1, y0.2.2.2.2.2.1, y0.2.2.2.2.2.2.1, y0.2.2.2.2.2.2.2.1, y0.2.2.2.2.2.2.2.2.1, y0.2.2.2.2.2.2.2.2.2.1, y0.2.2.2.2.2.2.2.2.2.2.1, y0.2.2.2.2.2.2.2.2.2.2.2.1, y0.2.2.2.2.2.2.2.2.2.2.2.2.1, y0.2.2.2.2.2.2.2.2.2.2.2.2.2.1, y0.2.2.2.2.2.2.2.2.2.2.2.2.2.2.1, y0.2.2.2.2.2.2.2.2.2.2.2.2.2.2.2.1, y0.2.2.2.2.2.2.2.2.2.2.2.2.2.2.2.2.1), y0.2.2.2.2.2.2.2.2.2.2.2.2.2.2.2.2.2.1, y0.2.2.2.2.2.2.2.2.2.2.2.2.2.2.2.2.2.2.1)) fun y2 =>
 Option.bind (f11 y1.2.1 y1.2.2.1 y1.2.2.2.1 y1.2.2.2.2.1 y1.2.2.2.2.2.1 y1.2.2.2.2.2.2.1 y1.2.2.2.2.2.2.2.1 y1.2.2.2.2.2.2.2.2.1 y1.2.2.2.2.2.2.2.2.2.1 y1.2.2.2.2.2.2.2.2.2.2.1 y1.2.2.2.2.2.2.2.2.2.2.2.1 y1.2.2.2.2.2.2.2.2.2.2.2.2.1 y1.2.2.2.2.2.2.2.2.2.2.2.2.2.1 y1.2.2.2.2.2.2.2.2.2.2.2.2.2.2.1 y1.2.2.2.2.2.2.2.2.2.2.2.2.2.2.2.1 y1.2.2.2.2.2.2.2.2.2.2.2.2.2.2.2.2.1 y1.2.2.2.2.2.2.2.2.2.2.2.2.2.2.2.2.2.1 y1.2.2.2.2.2.2.2.2.2.2.2.2.2.2.2.2.2.2.1 y1.2.2.2.2.2.2.2.2.2.2.2.2.2.2.2.2.2.2.2.1 y1.2.2.2.2.2.2.2.2.2.2.2.2.2.2.2.2.2.2.2.2.1 y1.2.2.2.2.2.2.2.2.2.2.2.2.2.2.2.2.2.2.2.2.2.1 y1.2.2.2.2.2.2.2.2.2.2.2.2.2.2.2.2.2.2.2.2.2.2.1 y1.2.2.2.2.2.2.2.2.2.2.2.2.2.2.2.2.2.2.2.2.2.2.2.1 y1.2.2.2.2.2.2.2.2.2.2.2.2.2.2.2.2.2.2.2.2.2.2.2.2.1 y1.2.2.2.2.2.2.2.2.2.2.2.2.2.2.2.2.2.2.2.2.2.2.2.2.2.1 y1.2.2.2.2.2.2.2.2.2.2.2.2.2.2.2.2.2.2.2.2.2.2.2.2.2.2.1 y1.2.2.2.2.2.2.2.2.2.2.2.2.2.2.2.2.2.2.2.2.2.2.2.2.2.2.2.1 y1.2.2.2.2.2.2.2.2.2.2.2.2.2.2.2.2.2.2.2.2.2.2.2.2.2.2.2.2.1 y1.2.2.2.2.2.2.2.2.2.2.2.2.2.2.2.2.2.2.2.2.2.2.2.2.2.2.2.2.2.1 y1.2.2.2.2.2.2.2.2.2.2.2.2.2.2.2.2.2.2.2.2.2.2.2.2.2.2.2.2.2.2.1 y1.2.2.2.2.2.2.2.2.2.2.2.2.2.2.2.2.2.2.2.2.2.2.2.2.2.2.2.2.2.2.2.1 y1.2.2.2.2.2.2.2.2.2.2.2.2.2.2.2.2.2.2.2.2.2.2.2.2.2.2.2.2.2.2.2.2.1 y1.2.2.2.2.2.2.2.2.2.2.2.2.2.2.2.2.2.2.2.2.2.2.2.2.2.2.2.2.2.2.2.2.2.1) fun y3 =>
 bif y2.1 != y3.1 then
 some ((Bool.false, ()))
 else
 f3.L1 rec ((v0, v1, 0, y0.2.1, y0.2.2.1, y0.2.2.2.1, y0.2.2.2.2.1, y0.2.2.2.2.2.1, y0.2.2.2.2.2.2.1, y0.2.2.2.2.2.2.2.1, y0.2.2.2.2.2.2.2.2.1, y0.2.2.2.2.2.2.2.2.2.1, y0.2.2.2.2.2.2.2.2.2.2.1, y0.2.2.2.2.2.2.2.2.2.2.2.1, y0.2.2.2.2.2.2.2.2.2.2.2.2.1, y0.2.2.2.2.2.2.2.2.2.2.2.2.2.1, y0.2.2.2.2.2.2.2.2.2.2.2.2.2.2.1, y0.2.2.2.2.2.2.2.2.2.2.2.2.2.2.2.1, y0.2.2.2.2.2.2.2.2.2.2.2.2.2.2.2.2.1, y0.2.2.2.2.2.2.2.2.2.2.2.2.2.2.2.2.2.1, y0.2.2.2.2.2.2.2.2.2.2.2.2.2.2.2.2.2.2.1, y3.2.1, y3.2.2.1, y3.2.2.2.1, y3.2.2.2.2.1, y3.2.2.2.2.2.1, y3.2.2.2.2.2.2.1, y3.2.2.2.2.2.2.2.1, y3.2.2.2.2.2.2.2.2.1, y3.2.2.2.2.2.2.2.2.2.1, y3.2.2.2.2.2.2.2.2.2.2.1, y3.2.2.2.2.2.2.2.2.2.2.2.1, y3.2.2.2.2.2.2.2.2.2.2.2.2.1, y3.2.2.2.2.2.2.2.2.2.2.2.2.2.1, y3.2.2.2.2.2.2.2.2.2.2.2.2.2.2.1, y3.2.2.2.2.2.2.2.2.2.2.2.2.2.2.2.1, y3.2.2.2.2.2.2.2.2.2.2.2.2.2.2.2.2.1, y3.2.2.2.2.2.2.2.2.2.2.2.2.2.2.2.2.2.1, y3.2.2.2.2.2.2.2.2.2.2.2.2.2.2.2.2.2.2.1, y3.2.2.2.2.2.2.2.2.2.2.2.2.2.2.2.2.2.2.2.1, y3.2.2.2.2.2.2.2.2.2.2.2.2.2.2.2.2.2.2.2.2.1, y3.2.2.2.2.2.2.2.2.2.2.2.2.2.2.2.2.2.2.2.2.2.1, y3.2.2.2.2.2.2.2.2.2.2.2.2.2.2.2.2.2.2.2.2.2.2.1, y3.2.2.2.2.2.2.2.2.2.2.2.2.2.2.2.2.2.2.2.2.2.2.2.1, y3.2.2.2.2.2.2.2.2.2.2.2.2.2.2.2.2.2.2.2.2.2.2.2.2.1, y3.2.2.2.2.2.2.2.2.2.2.2.2.2.2.2.2.2.2.2.2.2.2.2.2.2.1, y3.2.2.2.2.2.2.2.2.2.2.2.2.2.2.2.2.2.2.2.2.2.2.2.2.2.2.1, y3.2.2.2.2.2.2.2.2.2.2.2.2.2.2.2.2.2.2.2.2.2.2.2.2.2.2.2.1, y3.2.2.2.2.2.2.2.2.2.2.2.2.2.2.2.2.2.2.2.2.2.2.2.2.2.2.2.2.1, y3.2.2.2.2.2.2.2.2.2.2.2.2.2.2.2.2.2.2.2.2.2.2.2.2.2.2.2.2.2.1, y3.2.2.2.2.2.2.2.2.2.2.2.2.2.2.2.2.2.2.2.2.2.2.2.2.2.2.2.2.2.2.1, y3.2.2.2.2.2.2.2.2.2.2.2.2.2.2.2.2.2.2.2.2.2.2.2.2.2.2.2.2.2.2.2.1, y3.2.2.2.2.2.2.2.2.2.2.2.2.2.2.2.2.2.2.2.2.2.2.2.2.2.2.2.2.2.2.2.2.1, y3.2.2.2.2.2.2.2.2.2.2.2.2.2.2.2.2.2.2.2.2.2.2.2.2.2.2.2.2.2.2.2.2.2.1, y0.2.2.2.2.2.2.2.2.2.2.2.2.2.2.2.2.2.2.2.1, ()))
 else
 none
 else
 none
 else
 none
 else
 none
 else
 none
 else
 none
 else
 none
 else
 none
 else
 some ((Bool.true, ()))
 else
 some ((Bool.true, ()))
 ) (100000000000000000000) (x)
def f3 (a0 : List (Int × Int × List Int)) : Option (Bool × Unit) :=
 Option.bind (f6) fun y0 =>
 bif !y0.1 then
 some ((Bool.false, ()))
 else
 Option.bind (f7) fun y1 =>
 f3.L2 ((a0, 0, [], [], [], [], [], [], [], [], [], [], [], [], [], [], [], [], y1.1, y1.2.1, 0, Bool.false, Bool.false, Bool.false, Bool.false, Bool.false, Bool.false, Bool.false, Bool.false, Bool.false, Bool.false, Bool.false, Bool.false, Bool.false, Bool.false, Bool.false, Bool.false, [], [], [], [], [], [], [], [], [], [], [], [], [], [], [], [], ()))
def f3.ins : Shape := ⟨[(0, .c (.row (.prod (.int .i64) (.prod (.int .i64) (.row (.int .u8))))))], []⟩
def f3.outs : List Shape := [⟨[(0, .c (.bool))], []⟩]
def f3.S : FnSpec := ⟨f3.ins, f3.outs, [], fun x => f3 x.1⟩
def f3.E (fuel : Nat) : Env := ⟨tis, [(6, f6.S), (7, f7.S), (8, f8_1.S), (9, f9.S), (10, f10.S), (11, f11.S), (12, f12.S), (13, f13.S)], [], [], [(9, ⟨[(0, .c (.row (.prod (.int .i64) (.prod (.int .i64) (.row (.int .u8)))))), (3, .c (.ptr 0 0)), (4, .c (.ptr 1 0)), (5, n6)], [(0, .box [.row (.int .u8), .row (.int .u8), .row (.int .u8), .row (.int .u8), .row (.int .u8), .row (.int .u8), .row (.int .u8), .row (.int .u8), .row (.int .u8), .row (.int .u8), .row (.int .u8), .row (.int .u8), .row (.int .u8), .row (.int .u8), .row (.int .u8), .row (.int .u8), .int .u32, .int .i64]), (1, .box [.int .i64, .bool, .bool, .bool, .bool, .bool, .bool, .bool, .bool, .bool, .bool, .bool, .bool, .bool, .bool, .bool, .bool, .row (.int .u8), .row (.int .u8), .row (.int .u8), .row (.int .u8), .row (.int .u8), .row (.int .u8), .row (.int .u8), .row (.int .u8), .row (.int .u8), .row (.int .u8), .row (.int .u8), .row (.int .u8), .row (.int .u8), .row (.int .u8), .row (.int .u8), .row (.int .u8)])]⟩), (16, ⟨[(0, .c (.row (.prod (.int .i64) (.prod (.int .i64) (.row (.int .u8)))))), (3, .c (.ptr 0 0)), (4, .c (.ptr 1 0)), (5, n6), (6, .c (.own 2)), (7, n6)], [(0, .box [.row (.int .u8), .row (.int .u8), .row (.int .u8), .row (.int .u8), .row (.int .u8), .row (.int .u8), .row (.int .u8), .row (.int .u8), .row (.int .u8), .row (.int .u8), .row (.int .u8), .row (.int .u8), .row (.int .u8), .row (.int .u8), .row (.int .u8), .row (.int .u8), .int .u32, .int .i64]), (1, .box [.int .i64, .bool, .bool, .bool, .bool, .bool, .bool, .bool, .bool, .bool, .bool, .bool, .bool, .bool, .bool, .bool, .bool, .row (.int .u8), .row (.int .u8), .row (.int .u8), .row (.int .u8), .row (.int .u8), .row (.int .u8), .row (.int .u8), .row (.int .u8), .row (.int .u8), .row (.int .u8), .row (.int .u8), .row (.int .u8), .row (.int .u8), .row (.int .u8), .row (.int .u8), .row (.int .u8)]), (2, .arr (.int .u8))]⟩)], [], 0, [], fuel⟩
theorem f3.run : RunOk f3.E Go.Proofs.Try.f3 f3.S := by intro x; kernel_rfl
theorem f3.sound : Sound Go.Proofs.Try.prog 3 f3.S := sound_of_run (fun _ => f3.E 100000000000000000000) (by kernel_rfl) (by kernel_rfl) (by kernel_rfl) orders (fun _ => ⟨tis_ok, EqsOk.nil _, (fc f6.sound (fc f7.sound (fc f8_1.sound (fc f9.sound (fc f10.sound (fc f11.sound (fc f12.sound (fc f13.sound FnsOk.nil))))))))⟩) (fun _ => rfl) (by kernel_rfl) (by kernel_rfl) (fun x r h => (f3.run x).trans h)
/-! f14: adit/aditlaw12.within -/
def f14 (a0 : Int) (a1 : Int) : Option (Int × Unit) :=
 bif decide (a1 = 0) then
 none
 else
 Option.bind (α := Int × Unit ⊕ Int × Unit) (
 bif decide (Int.tmod a0 a1 < 0) then
 some (Sum.inl (IntKind.wrap .i64 (Int.tmod a0 a1 + a1), ()))
 else
 some (Sum.inl (Int.tmod a0 a1, ()))
 ) fun y0 =>
 Sum.elim (fun y1 =>
 some ((y1.1, ()))
 ) (fun z2 =>
 some (z2)
 ) (y0)
def f14.ins : Shape := ⟨[(0, n6), (1, n6)], []⟩
def f14.outs : List Shape := [⟨[(0, n6)], []⟩]
def f14.S : FnSpec := ⟨f14.ins, f14.outs, [], fun x => f14 x.1 x.2.1⟩
def f14.E (fuel : Nat) : Env := ⟨tis, [], [], [(5, ⟨[(5, n6)], []⟩)], [], [], 0, [], fuel⟩
theorem f14.run : RunOk f14.E Go.Proofs.Try.f14 f14.S := by intro x; kernel_rfl
theorem f14.sound : Sound Go.Proofs.Try.prog 14 f14.S := sound_of_run (fun _ => f14.E 100000000000000000000) (by kernel_rfl) (by kernel_rfl) (by kernel_rfl) orders (fun _ => ⟨tis_ok, EqsOk.nil _, FnsOk.nil⟩) (fun _ => rfl) (by kernel_rfl) (by kernel_rfl) (fun x r h => (f14.run x).trans h)
/-! f12_1: (*adit/chunk.Taker).Whole -/
def f12_1 (a0 : Int) (a1 : Int) : Option (Bool × Int × Int × List Int × Unit) :=
 bif a1 == 0 then
 some ((Bool.false, a0, a1, [], ()))
 else
 bif decide (a1 < 0) then
 none
 else
 bif a0 != IntKind.wrap .u32 (IntKind.wrap .u32 (1 * 2 ^ Min.min (Int.toNat a1) (IntKind.bits IntKind.u32)) - 1) then
 some ((Bool.false, a0, a1, [], ()))
 else
 bif decide ((0 : Int) ≤ 0 ∧ 0 ≤ a1 ∧ a1 ≤ (↑16 : Int)) then
 Option.bind (f21 (List.drop 0 (List.take (Int.toNat a1) [[], [], [], [], [], [], [], [], [], [], [], [], [], [], [], []]))) fun y0 =>
 some ((Bool.true, a0, a1, y0.1, ()))
 else
 none
def f12_1.ins : Shape := ⟨[(0, .c (.ptr 0 0))], [(0, .box [.nils, .nils, .nils, .nils, .nils, .nils, .nils, .nils, .nils, .nils, .nils, .nils, .nils, .nils, .nils, .nils, .int .u32, .int .i64])]⟩
def f12_1.outs : List Shape := [⟨[(0, .c (.own 1)), (1, .c (.bool))], [(0, .box [.nils, .nils, .nils, .nils, .nils, .nils, .nils, .nils, .nils, .nils, .nils, .nils, .nils, .nils, .nils, .nils, .int .u32, .int .i64]), (1, .arr (.int .u8))]⟩]
def f12_1.S : FnSpec := ⟨f12_1.ins, f12_1.outs, [0], fun x => f12_1 x.1 x.2.1⟩
def f12_1.E (fuel : Nat) : Env := ⟨tis, [(21, f21.S)], [], [], [], [], 1, [0], fuel⟩
theorem f12_1.run : RunOk f12_1.E Go.Proofs.Try.f12 f12_1.S := by intro x; kernel_rfl
theorem f12_1.sound : Sound Go.Proofs.Try.prog 12 f12_1.S := sound_of_run (fun _ => f12_1.E 100000000000000000000) (by kernel_rfl) (by kernel_rfl) (by kernel_rfl) orders (fun _ => ⟨tis_ok, EqsOk.nil _, (fc f21.sound FnsOk.nil)⟩) (fun _ => rfl) (by kernel_rfl) (by kernel_rfl) (fun x r h => (f12_1.run x).trans h)
/-! f4: adit/aditlaw12.ChunkBits -/
def f4.L1 (x : Int × List Int × Int × Int × List Int × List Int × List Int × List Int × List Int × List Int × List Int × List Int × List Int × List Int × List Int × List Int × List Int × List Int × List Int × List Int × Int × Int × Unit) : Option (Bool × Unit) :=
 it (X := Int × List Int × Int × Int × List Int × List Int × List Int × List Int × List Int × List Int × List Int × List Int × List Int × List Int × List Int × List Int × List Int × List Int × List Int × List Int × Int × Int × Unit) (fun rec x => match x with
 | (v0, v1, v2, v3, v4, v5, v6, v7, v8, v9, v10, v11, v12, v13, v14, v15, v16, v17, v18, v19, v20, v21, _) =>
 bif decide (v3 < (↑(List.length v1) : Int)) then
 bif decide (v3 < 40) then
 bif inRange v3 (List.length v1) then
 Option.bind (f14 (List.getD v1 (Int.toNat v3) 0) v0) fun y0 =>
 Option.bind (f8_1 y0.1 v0 v4 v5 v6 v7 v8 v9 v10 v11 v12 v13 v14 v15 v16 v17 v18 v19 v20 v21 (List.replicate 64 0)) fun y1 =>
 bif y1.1 != 0 then
 some ((Bool.false, ()))
 else
 bif decide (y0.1 < 0) then
 none
 else
 Option.bind (f12 y1.2.1 y1.2.2.1 y1.2.2.2.1 y1.2.2.2.2.1 y1.2.2.2.2.2.1 y1.2.2.2.2.2.2.1 y1.2.2.2.2.2.2.2.1 y1.2.2.2.2.2.2.2.2.1 y1.2.2.2.2.2.2.2.2.2.1 y1.2.2.2.2.2.2.2.2.2.2.1 y1.2.2.2.2.2.2.2.2.2.2.2.1 y1.2.2.2.2.2.2.2.2.2.2.2.2.1 y1.2.2.2.2.2.2.2.2.2.2.2.2.2.1 y1.2.2.2.2.2.2.2.2.2.2.2.2.2.2.1 y1.2.2.2.2.2.2.2.2.2.2.2.2.2.2.2.1 y1.2.2.2.2.2.2.2.2.2.2.2.2.2.2.2.2.1 y1.2.2.2.2.2.2.2.2.2.2.2.2.2.2.2.2.2.1 y1.2.2.2.2.2.2.2.2.2.2.2.2.2.2.2.2.2.2.1) fun y2 =>
 Option.bind (f10 ((y2.2.1, y2.2.2.1, y2.2.2.2.1, y2.2.2.2.2.1, y2.2.2.2.2.2.1, y2.2.2.2.2.2.2.1, y2.2.2.2.2.2.2.2.1, y2.2.2.2.2.2.2.2.2.1, y2.2.2.2.2.2.2.2.2.2.1, y2.2.2.2.2.2.2.2.2.2.2.1, y2.2.2.2.2.2.2.2.2.2.2.2.1, y2.2.2.2.2.2.2.2.2.2.2.2.2.1, y2.2.2.2.2.2.2.2.2.2.2.2.2.2.1, y2.2.2.2.2.2.2.2.2.2.2.2.2.2.2.1, y2.2.2.2.2.2.2.2.2.2.2.2.2.2.2.2.1, y2.2.2.2.2.2.2.2.2.2.2.2.2.2.2.2.2.1), y2.2.2.2.2.2.2.2.2.2.2.2.2.2.2.2.2.2.1, y2.2.2.2.2.2.2.2.2.2.2.2.2.2.2.2.2.2.2.1)) fun y3 =>
 bif y3.1 != IntKind.wrap .u32 (↑(BitVec.toNat (BitVec.ofInt (IntKind.bits IntKind.u32) v2 ||| BitVec.ofInt (IntKind.bits IntKind.u32) (IntKind.wrap .u32 (1 * 2 ^ Min.min (Int.toNat y0.1) (IntKind.bits IntKind.u32))))) : Int) then
 some ((Bool.false, ()))
 else
 bif decide (v0 < 0) then
 none
 else
 bif !y2.1 == (IntKind.wrap .u32 (↑(BitVec.toNat (BitVec.ofInt (IntKind.bits IntKind.u32) v2 ||| BitVec.ofInt (IntKind.bits IntKind.u32) (IntKind.wrap .u32 (1 * 2 ^ Min.min (Int.toNat y0.1) (IntKind.bits IntKind.u32))))) : Int) == IntKind.wrap .u32 (IntKind.wrap .u32 (1 * 2 ^ Min.min (Int.toNat v0) (IntKind.bits IntKind.u32)) - 1)) then
 some ((Bool.false, ()))
 else
 bif y2.1 then
 bif (↑(List.length y2.2.2.2.2.2.2.2.2.2.2.2.2.2.2.2.2.2.2.2.1) : Int) != IntKind.wrap .i64 (64 * v0) then
 some ((Bool.false, ()))
 else
 rec (v0, v1, IntKind.wrap .u32 (↑(BitVec.toNat (BitVec.ofInt (IntKind.bits IntKind.u32) v2 ||| BitVec.ofInt (IntKind.bits IntKind.u32) (IntKind.wrap .u32 (1 * 2 ^ Min.min (Int.toNat y0.1) (IntKind.bits IntKind.u32))))) : Int), IntKind.wrap .i64 (v3 + 1), y2.2.1, y2.2.2.1, y2.2.2.2.1, y2.2.2.2.2.1, y2.2.2.2.2.2.1, y2.2.2.2.2.2.2.1, y2.2.2.2.2.2.2.2.1, y2.2.2.2.2.2.2.2.2.1, y2.2.2.2.2.2.2.2.2.2.1, y2.2.2.2.2.2.2.2.2.2.2.1, y2.2.2.2.2.2.2.2.2.2.2.2.1, y2.2.2.2.2.2.2.2.2.2.2.2.2.1, y2.2.2.2.2.2.2.2.2.2.2.2.2.2.1, y2.2.2.2.2.2.2.2.2.2.2.2.2.2.2.1, y2.2.2.2.2.2.2.2.2.2.2.2.2.2.2.2.1, y2.2.2.2.2.2.2.2.2.2.2.2.2.2.2.2.2.1, y2.2.2.2.2.2.2.2.2.2.2.2.2.2.2.2.2.2.1, y2.2.2.2.2.2.2.2.2.2.2.2.2.2.2.2.2.2.2.1, ())
 else
 rec (v0, v1, IntKind.wrap .u32 (↑(BitVec.toNat (BitVec.ofInt (IntKind.bits IntKind.u32) v2 ||| BitVec.ofInt (IntKind.bits IntKind.u32) (IntKind.wrap .u32 (1 * 2 ^ Min.min (Int.toNat y0.1) (IntKind.bits IntKind.u32))))) : Int), IntKind.wrap .i64 (v3 + 1), y2.2.1, y2.2.2.1, y2.2.2.2.1, y2.2.2.2.2.1, y2.2.2.2.2.2.1, y2.2.2.2.2.2.2.1, y2.2.2.2.2.2.2.2.1, y2.2.2.2.2.2.2.2.2.1, y2.2.2.2.2.2.2.2.2.2.1, y2.2.2.2.2.2.2.2.2.2.2.1, y2.2.2.2.2.2.2.2.2.2.2.2.1, y2.2.2.2.2.2.2.2.2.2.2.2.2.1, y2.2.2.2.2.2.2.2.2.2.2.2.2.2.1, y2.2.2.2.2.2.2.2.2.2.2.2.2.2.2.1, y2.2.2.2.2.2.2.2.2.2.2.2.2.2.2.2.1, y2.2.2.2.2.2.2.2.2.2.2.2.2.2.2.2.2.1, y2.2.2.2.2.2.2.2.2.2.2.2.2.2.2.2.2.2.1, y2.2.2.2.2.2.2.2.2.2.2.2.2.2.2.2.2.2.2.1, ())
 else
 none
 else
 some ((Bool.true, ()))
 else
 some ((Bool.true, ()))
 ) (100000000000000000000) (x)
def f4 (a0 : Int) (a1 : List Int) : Option (Bool × Unit) :=
 Option.bind (f6) fun y0 =>
 bif !y0.1 then
 some ((Bool.false, ()))
 else
 Option.bind (f14 a0 16) fun y1 =>
 Option.bind (f7) fun y2 =>
 Option.bind (f12 [] [] [] [] [] [] [] [] [] [] [] [] [] [] [] [] y2.1 y2.2.1) fun y3 =>
 Option.bind (f10 ((y3.2.1, y3.2.2.1, y3.2.2.2.1, y3.2.2.2.2.1, y3.2.2.2.2.2.1, y3.2.2.2.2.2.2.1, y3.2.2.2.2.2.2.2.1, y3.2.2.2.2.2.2.2.2.1, y3.2.2.2.2.2.2.2.2.2.1, y3.2.2.2.2.2.2.2.2.2.2.1, y3.2.2.2.2.2.2.2.2.2.2.2.1, y3.2.2.2.2.2.2.2.2.2.2.2.2.1, y3.2.2.2.2.2.2.2.2.2.2.2.2.2.1, y3.2.2.2.2.2.2.2.2.2.2.2.2.2.2.1, y3.2.2.2.2.2.2.2.2.2.2.2.2.2.2.2.1, y3.2.2.2.2.2.2.2.2.2.2.2.2.2.2.2.2.1), y3.2.2.2.2.2.2.2.2.2.2.2.2.2.2.2.2.2.1, y3.2.2.2.2.2.2.2.2.2.2.2.2.2.2.2.2.2.2.1)) fun y4 =>
 bif y4.1 != 0 then
 some ((Bool.false, ()))
 else
 bif y3.1 then
 some ((Bool.false, ()))
 else
 f4.L1 ((IntKind.wrap .i64 (1 + y1.1), a1, 0, 0, y3.2.1, y3.2.2.1, y3.2.2.2.1, y3.2.2.2.2.1, y3.2.2.2.2.2.1, y3.2.2.2.2.2.2.1, y3.2.2.2.2.2.2.2.1, y3.2.2.2.2.2.2.2.2.1, y3.2.2.2.2.2.2.2.2.2.1, y3.2.2.2.2.2.2.2.2.2.2.1, y3.2.2.2.2.2.2.2.2.2.2.2.1, y3.2.2.2.2.2.2.2.2.2.2.2.2.1, y3.2.2.2.2.2.2.2.2.2.2.2.2.2.1, y3.2.2.2.2.2.2.2.2.2.2.2.2.2.2.1, y3.2.2.2.2.2.2.2.2.2.2.2.2.2.2.2.1, y3.2.2.2.2.2.2.2.2.2.2.2.2.2.2.2.2.1, y3.2.2.2.2.2.2.2.2.2.2.2.2.2.2.2.2.2.1, y3.2.2.2.2.2.2.2.2.2.2.2.2.2.2.2.2.2.2.1, ()))
def f4.ins : Shape := ⟨[(0, n6), (1, .c (.row (.int .i64)))], []⟩
def f4.outs : List Shape := [⟨[(0, .c (.bool))], []⟩]
def f4.S : FnSpec := ⟨f4.ins, f4.outs, [], fun x => f4 x.1 x.2.1⟩
def f4.E (fuel : Nat) : Env := ⟨tis, [(6, f6.S), (7, f7.S), (8, f8_1.S), (10, f10.S), (12, f12.S), (14, f14.S), (12, f12_1.S)], [], [], [(11, ⟨[(0, n6), (1, .c (.row (.int .i64))), (5, .c (.ptr 0 0)), (6, .c (.int .u32)), (9, n6)], [(0, .box [.row (.int .u8), .row (.int .u8), .row (.int .u8), .row (.int .u8), .row (.int .u8), .row (.int .u8), .row (.int .u8), .row (.int .u8), .row (.int .u8), .row (.int .u8), .row (.int .u8), .row (.int .u8), .row (.int .u8), .row (.int .u8), .row (.int .u8), .row (.int .u8), .int .u32, .int .i64])]⟩)], [], 0, [], fuel⟩
theorem f4.run : RunOk f4.E Go.Proofs.Try.f4 f4.S := by intro x; kernel_rfl
theorem f4.sound : Sound Go.Proofs.Try.prog 4 f4.S := sound_of_run (fun _ => f4.E 100000000000000000000) (by kernel_rfl) (by kernel_rfl) (by kernel_rfl) orders (fun _ => ⟨tis_ok, EqsOk.nil _, (fc f6.sound (fc f7.sound (fc f8_1.sound (fc f10.sound (fc f12.sound (fc f14.sound (fc f12_1.sound FnsOk.nil)))))))⟩) (fun _ => rfl) (by kernel_rfl) (by kernel_rfl) (fun x r h => (f4.run x).trans h)
/-! f15: adit/chunk.Split -/
def f15.L1 (x : List Int × List (List Int) × Unit) : Option (Int × List (List Int) × Unit) :=
 it (X := List Int × List (List Int) × Unit) (fun rec x =>
 bif decide ((↑(List.length x.1) : Int) > 64) then
 bif decide ((0 : Int) ≤ 0 ∧ (0 : Int) ≤ 64 ∧ 64 ≤ (↑(List.length x.1) : Int)) then
 Option.bind (f20 (List.drop 0 (List.take 64 x.1))) fun y0 =>
 bif decide (List.length x.2.1 + 1 ≤ limit 24) then
 bif decide ((0 : Int) ≤ 64 ∧ 64 ≤ (↑(List.length x.1) : Int) ∧ (↑(List.length x.1) : Int) ≤ (↑(List.length x.1) : Int)) then
 rec (List.drop 64 (List.take (List.length x.1) x.1), x.2.1 ++ [y0.1], ())
 else
 none
 else
 none
 else
 none
 else
 Option.bind (f20 x.1) fun y1 =>
 bif decide (List.length x.2.1 + 1 ≤ limit 24) then
 some ((0, x.2.1 ++ [y1.1], ()))
 else
 none
 ) (100000000000000000000) (x)
def f15 (a0 : List Int) : Option (Int × List (List Int) × Unit) :=
 bif decide ((↑(List.length a0) : Int) > 1024) then
 some ((4, [], ()))
 else
 f15.L1 ((a0, [], ()))
def f15.ins : Shape := ⟨[(0, r8)], []⟩
def f15.outs : List Shape := [⟨[(0, .c (.own 0)), (1, n6)], [(0, .arr (.row (.int .u8)))]⟩]
def f15.S : FnSpec := ⟨f15.ins, f15.outs, [], fun x => f15 x.1⟩
def f15.E (fuel : Nat) : Env := ⟨tis, [(20, f20.S)], [], [], [(5, ⟨[(0, r8), (4, .c (.own 0))], [(0, .arr (.row (.int .u8)))]⟩)], [], 0, [], fuel⟩
theorem f15.run : RunOk f15.E Go.Proofs.Try.f15 f15.S := by intro x; kernel_rfl
theorem f15.sound : Sound Go.Proofs.Try.prog 15 f15.S := sound_of_run (fun _ => f15.E 100000000000000000000) (by kernel_rfl) (by kernel_rfl) (by kernel_rfl) orders (fun _ => ⟨tis_ok, EqsOk.nil _, (fc f20.sound FnsOk.nil)⟩) (fun _ => rfl) (by kernel_rfl) (by kernel_rfl) (fun x r h => (f15.run x).trans h)
/-! f24: slices.Index[[]bool,bool] -/
def f24.L1 (x : List Bool × Bool × Int × Int × Unit) : Option (Int × Unit) :=
 it (X := List Bool × Bool × Int × Int × Unit) (fun rec x =>
 bif decide (x.2.2.2.1 < x.2.2.1) then
 bif inRange x.2.2.2.1 (List.length x.1) then
 bif x.2.1 == List.getD x.1 (Int.toNat x.2.2.2.1) Bool.false then
 some ((x.2.2.2.1, ()))
 else
 rec (x.1, x.2.1, x.2.2.1, IntKind.wrap .i64 (x.2.2.2.1 + 1), ())
 else
 none
 else
 some ((-1, ()))
 ) (100000000000000000000) (x)
def f24 (a0 : List Bool) (a1 : Bool) : Option (Int × Unit) :=
 f24.L1 ((a0, a1, (↑(List.length a0) : Int), 0, ()))
def f24.ins : Shape := ⟨[(0, .c (.row .bool)), (1, .c (.bool))], []⟩
def f24.outs : List Shape := [⟨[(0, n6)], []⟩]
def f24.S : FnSpec := ⟨f24.ins, f24.outs, [], fun x => f24 x.1 x.2.1⟩
def f24.E (fuel : Nat) : Env := ⟨tis, [], [], [], [(3, ⟨[(0, .c (.row .bool)), (1, .c (.bool)), (7, n6), (8, n6)], []⟩)], [], 0, [], fuel⟩
theorem f24.run : RunOk f24.E Go.Proofs.Try.f24 f24.S := by intro x; kernel_rfl
theorem f24.sound : Sound Go.Proofs.Try.prog 24 f24.S := sound_of_run (fun _ => f24.E 100000000000000000000) (by kernel_rfl) (by kernel_rfl) (by kernel_rfl) orders (fun _ => ⟨tis_ok, EqsOk.nil _, FnsOk.nil⟩) (fun _ => rfl) (by kernel_rfl) (by kernel_rfl) (fun x r h => (f24.run x).trans h)
/-! f22: slices.Contains[[]bool,bool] -/
def f22 (a0 : List Bool) (a1 : Bool) : Option (Bool × Unit) :=
 Option.bind (f24 a0 a1) fun y0 =>
 some ((decide (y0.1 ≥ 0), ()))
def f22.ins : Shape := ⟨[(0, .c (.row .bool)), (1, .c (.bool))], []⟩
def f22.outs : List Shape := [⟨[(0, .c (.bool))], []⟩]
def f22.S : FnSpec := ⟨f22.ins, f22.outs, [], fun x => f22 x.1 x.2.1⟩
def f22.E (fuel : Nat) : Env := ⟨tis, [(24, f24.S)], [], [], [], [], 0, [], fuel⟩
theorem f22.run : RunOk f22.E Go.Proofs.Try.f22 f22.S := by intro x; kernel_rfl
theorem f22.sound : Sound Go.Proofs.Try.prog 22 f22.S := sound_of_run (fun _ => f22.E 100000000000000000000) (by kernel_rfl) (by kernel_rfl) (by kernel_rfl) orders (fun _ => ⟨tis_ok, EqsOk.nil _, (fc f24.sound FnsOk.nil)⟩) (fun _ => rfl) (by kernel_rfl) (by kernel_rfl) (fun x r h => (f22.run x).trans h)
/-! f17: (*adit/chunk.Sender).Done -/
def f17 (a0 : List Bool × Int) : Option (Bool × Unit) :=
 Option.bind (f22 a0.1 Bool.false) fun y0 =>
 some ((!y0.1, ()))
def f17.ins : Shape := ⟨[(0, .c (.bptr (.prod (.row .bool) (.int .i64))))], []⟩
def f17.outs : List Shape := [⟨[(0, .c (.bool))], []⟩]
def f17.S : FnSpec := ⟨f17.ins, f17.outs, [], fun x => f17 x.1⟩
def f17.E (fuel : Nat) : Env := ⟨tis, [(22, f22.S)], [], [], [], [], 0, [], fuel⟩
theorem f17.run : RunOk f17.E Go.Proofs.Try.f17 f17.S := by intro x; kernel_rfl
theorem f17.sound : Sound Go.Proofs.Try.prog 17 f17.S := sound_of_run (fun _ => f17.E 100000000000000000000) (by kernel_rfl) (by kernel_rfl) (by kernel_rfl) orders (fun _ => ⟨tis_ok, EqsOk.nil _, (fc f22.sound FnsOk.nil)⟩) (fun _ => rfl) (by kernel_rfl) (by kernel_rfl) (fun x r h => (f17.run x).trans h)
/-! f8: (*adit/chunk.Taker).Put -/
def f8 (a0 : Int) (a1 : Int) (a2 : List Int) (a3 : List Int) (a4 : List Int) (a5 : List Int) (a6 : List Int) (a7 : List Int) (a8 : List Int) (a9 : List Int) (a10 : List Int) (a11 : List Int) (a12 : List Int) (a13 : List Int) (a14 : List Int) (a15 : List Int) (a16 : List Int) (a17 : List Int) (a18 : List Int) (a19 : Int) (a20 : Int) : Option (Int × List Int × List Int × List Int × List Int × List Int × List Int × List Int × List Int × List Int × List Int × List Int × List Int × List Int × List Int × List Int × List Int × Int × Int × Unit) :=
 Option.bind (α := Int × Int × List Int × List Int × List Int × List Int × List Int × List Int × List Int × List Int × List Int × List Int × List Int × List Int × List Int × List Int × List Int × List Int × List Int × Int × Int × Unit ⊕ Int × List Int × List Int × List Int × List Int × List Int × List Int × List Int × List Int × List Int × List Int × List Int × List Int × List Int × List Int × List Int × List Int × Int × Int × Unit) (
 Option.bind (α := Int × Int × List Int × Bool × List Int × List Int × List Int × List Int × List Int × List Int × List Int × List Int × List Int × List Int × List Int × List Int × List Int × List Int × List Int × List Int × Int × Int × Unit ⊕ Int × Int × List Int × List Int × List Int × List Int × List Int × List Int × List Int × List Int × List Int × List Int × List Int × List Int × List Int × List Int × List Int × List Int × List Int × Int × Int × Unit ⊕ Int × List Int × List Int × List Int × List Int × List Int × List Int × List Int × List Int × List Int × List Int × List Int × List Int × List Int × List Int × List Int × List Int × Int × Int × Unit) (
 bif decide (a1 < 1) then
 some (Sum.inl (a0, a1, a2, Bool.true, a3, a4, a5, a6, a7, a8, a9, a10, a11, a12, a13, a14, a15, a16, a17, a18, a19, a20, ()))
 else
 bif decide (a1 > 16) then
 some (Sum.inl (a0, a1, a2, Bool.true, a3, a4, a5, a6, a7, a8, a9, a10, a11, a12, a13, a14, a15, a16, a17, a18, a19, a20, ()))
 else
 bif decide (a0 < 0) then
 some (Sum.inl (a0, a1, a2, Bool.true, a3, a4, a5, a6, a7, a8, a9, a10, a11, a12, a13, a14, a15, a16, a17, a18, a19, a20, ()))
 else
 some (Sum.inl (a0, a1, a2, decide (a0 ≥ a1), a3, a4, a5, a6, a7, a8, a9, a10, a11, a12, a13, a14, a15, a16, a17, a18, a19, a20, ()))
 ) fun y4 =>
 Sum.elim (fun y5 => match y5 with
 | (u5_0, u5_1, u5_2, u5_3, u5_4, u5_5, u5_6, u5_7, u5_8, u5_9, u5_10, u5_11, u5_12, u5_13, u5_14, u5_15, u5_16, u5_17, u5_18, u5_19, u5_20, u5_21, _) =>
 bif u5_3 then
 some (Sum.inr (1, u5_4, u5_5, u5_6, u5_7, u5_8, u5_9, u5_10, u5_11, u5_12, u5_13, u5_14, u5_15, u5_16, u5_17, u5_18, u5_19, u5_20, u5_21, ()))
 else
 bif u5_21 != 0 then
 bif u5_21 != u5_1 then
 some (Sum.inr (9, u5_4, u5_5, u5_6, u5_7, u5_8, u5_9, u5_10, u5_11, u5_12, u5_13, u5_14, u5_15, u5_16, u5_17, u5_18, u5_19, u5_20, u5_21, ()))
 else
 bif decide ((↑(List.length u5_2) : Int) > 64) then
 some (Sum.inr (9, u5_4, u5_5, u5_6, u5_7, u5_8, u5_9, u5_10, u5_11, u5_12, u5_13, u5_14, u5_15, u5_16, u5_17, u5_18, u5_19, u5_20, u5_21, ()))
 else
 bif decide ((↑(List.length u5_2) : Int) < 64) then
 bif u5_0 != IntKind.wrap .i64 (u5_1 - 1) then
 some (Sum.inr (9, u5_4, u5_5, u5_6, u5_7, u5_8, u5_9, u5_10, u5_11, u5_12, u5_13, u5_14, u5_15, u5_16, u5_17, u5_18, u5_19, u5_20, u5_21, ()))
 else
 some (Sum.inl (u5_0, u5_1, u5_2, u5_4, u5_5, u5_6, u5_7, u5_8, u5_9, u5_10, u5_11, u5_12, u5_13, u5_14, u5_15, u5_16, u5_17, u5_18, u5_19, u5_20, u5_21, ()))
 else
 some (Sum.inl (u5_0, u5_1, u5_2, u5_4, u5_5, u5_6, u5_7, u5_8, u5_9, u5_10, u5_11, u5_12, u5_13, u5_14, u5_15, u5_16, u5_17, u5_18, u5_19, u5_20, u5_21, ()))
 else
 bif decide ((↑(List.length u5_2) : Int) > 64) then
 some (Sum.inr (9, u5_4, u5_5, u5_6, u5_7, u5_8, u5_9, u5_10, u5_11, u5_12, u5_13, u5_14, u5_15, u5_16, u5_17, u5_18, u5_19, u5_20, u5_21, ()))
 else
 bif decide ((↑(List.length u5_2) : Int) < 64) then
 bif u5_0 != IntKind.wrap .i64 (u5_1 - 1) then
 some (Sum.inr (9, u5_4, u5_5, u5_6, u5_7, u5_8, u5_9, u5_10, u5_11, u5_12, u5_13, u5_14, u5_15, u5_16, u5_17, u5_18, u5_19, u5_20, u5_21, ()))
 else
 some (Sum.inl (u5_0, u5_1, u5_2, u5_4, u5_5, u5_6, u5_7, u5_8, u5_9, u5_10, u5_11, u5_12, u5_13, u5_14, u5_15, u5_16, u5_17, u5_18, u5_19, u5_20, u5_21, ()))
 else
 some (Sum.inl (u5_0, u5_1, u5_2, u5_4, u5_5, u5_6, u5_7, u5_8, u5_9, u5_10, u5_11, u5_12, u5_13, u5_14, u5_15, u5_16, u5_17, u5_18, u5_19, u5_20, u5_21, ()))
 ) (fun z6 =>
 some (z6)
 ) (y4)
 ) fun y0 =>
 Sum.elim (fun y1 => match y1 with
 | (u1_0, u1_1, u1_2, u1_3, u1_4, u1_5, u1_6, u1_7, u1_8, u1_9, u1_10, u1_11, u1_12, u1_13, u1_14, u1_15, u1_16, u1_17, u1_18, u1_19, _, _) =>
 bif decide (u1_0 < 0) then
 none
 else
 bif IntKind.wrap .u32 (↑(BitVec.toNat (BitVec.ofInt (IntKind.bits IntKind.u32) (Int.fdiv u1_19 (2 ^ Min.min (Int.toNat u1_0) (IntKind.bits IntKind.u32))) &&& BitVec.ofInt (IntKind.bits IntKind.u32) 1)) : Int) == 0 then
 Option.bind (f20 u1_2) fun y3 =>
 bif inRange u1_0 16 then
 bif decide (u1_0 < 0) then
 none
 else
 some ((0, if Int.toNat u1_0 = 0 / 1 then y3.1 else u1_3, if Int.toNat u1_0 = (0 + 1) / 1 then y3.1 else u1_4, if Int.toNat u1_0 = (0 + 1 + 1) / 1 then y3.1 else u1_5, if Int.toNat u1_0 = (0 + 1 + 1 + 1) / 1 then y3.1 else u1_6, if Int.toNat u1_0 = (0 + 1 + 1 + 1 + 1) / 1 then y3.1 else u1_7, if Int.toNat u1_0 = (0 + 1 + 1 + 1 + 1 + 1) / 1 then y3.1 else u1_8, if Int.toNat u1_0 = (0 + 1 + 1 + 1 + 1 + 1 + 1) / 1 then y3.1 else u1_9, if Int.toNat u1_0 = (0 + 1 + 1 + 1 + 1 + 1 + 1 + 1) / 1 then y3.1 else u1_10, if Int.toNat u1_0 = (0 + 1 + 1 + 1 + 1 + 1 + 1 + 1 + 1) / 1 then y3.1 else u1_11, if Int.toNat u1_0 = (0 + 1 + 1 + 1 + 1 + 1 + 1 + 1 + 1 + 1) / 1 then y3.1 else u1_12, if Int.toNat u1_0 = (0 + 1 + 1 + 1 + 1 + 1 + 1 + 1 + 1 + 1 + 1) / 1 then y3.1 else u1_13, if Int.toNat u1_0 = (0 + 1 + 1 + 1 + 1 + 1 + 1 + 1 + 1 + 1 + 1 + 1) / 1 then y3.1 else u1_14, if Int.toNat u1_0 = (0 + 1 + 1 + 1 + 1 + 1 + 1 + 1 + 1 + 1 + 1 + 1 + 1) / 1 then y3.1 else u1_15, if Int.toNat u1_0 = (0 + 1 + 1 + 1 + 1 + 1 + 1 + 1 + 1 + 1 + 1 + 1 + 1 + 1) / 1 then y3.1 else u1_16, if Int.toNat u1_0 = (0 + 1 + 1 + 1 + 1 + 1 + 1 + 1 + 1 + 1 + 1 + 1 + 1 + 1 + 1) / 1 then y3.1 else u1_17, if Int.toNat u1_0 = (0 + 1 + 1 + 1 + 1 + 1 + 1 + 1 + 1 + 1 + 1 + 1 + 1 + 1 + 1 + 1) / 1 then y3.1 else u1_18, IntKind.wrap .u32 (↑(BitVec.toNat (BitVec.ofInt (IntKind.bits IntKind.u32) u1_19 ||| BitVec.ofInt (IntKind.bits IntKind.u32) (IntKind.wrap .u32 (1 * 2 ^ Min.min (Int.toNat u1_0) (IntKind.bits IntKind.u32))))) : Int), u1_1, ()))
 else
 none
 else
 some ((0, u1_3, u1_4, u1_5, u1_6, u1_7, u1_8, u1_9, u1_10, u1_11, u1_12, u1_13, u1_14, u1_15, u1_16, u1_17, u1_18, u1_19, u1_1, ()))
 ) (fun z2 =>
 some (z2)
 ) (y0)
def f8.ins : Shape := ⟨[(0, .c (.ptr 0 0)), (1, n6), (2, n6), (3, r8)], [(0, .box [.row (.int .u8), .row (.int .u8), .row (.int .u8), .row (.int .u8), .row (.int .u8), .row (.int .u8), .row (.int .u8), .row (.int .u8), .row (.int .u8), .row (.int .u8), .row (.int .u8), .row (.int .u8), .row (.int .u8), .row (.int .u8), .row (.int .u8), .row (.int .u8), .int .u32, .int .i64])]⟩
def f8.outs : List Shape := [⟨[(0, n6)], [(0, .box [.row (.int .u8), .row (.int .u8), .row (.int .u8), .row (.int .u8), .row (.int .u8), .row (.int .u8), .row (.int .u8), .row (.int .u8), .row (.int .u8), .row (.int .u8), .row (.int .u8), .row (.int .u8), .row (.int .u8), .row (.int .u8), .row (.int .u8), .row (.int .u8), .int .u32, .int .i64])]⟩]
def f8.S : FnSpec := ⟨f8.ins, f8.outs, [0], fun x => f8 x.1 x.2.1 x.2.2.1 x.2.2.2.1 x.2.2.2.2.1 x.2.2.2.2.2.1 x.2.2.2.2.2.2.1 x.2.2.2.2.2.2.2.1 x.2.2.2.2.2.2.2.2.1 x.2.2.2.2.2.2.2.2.2.1 x.2.2.2.2.2.2.2.2.2.2.1 x.2.2.2.2.2.2.2.2.2.2.2.1 x.2.2.2.2.2.2.2.2.2.2.2.2.1 x.2.2.2.2.2.2.2.2.2.2.2.2.2.1 x.2.2.2.2.2.2.2.2.2.2.2.2.2.2.1 x.2.2.2.2.2.2.2.2.2.2.2.2.2.2.2.1 x.2.2.2.2.2.2.2.2.2.2.2.2.2.2.2.2.1 x.2.2.2.2.2.2.2.2.2.2.2.2.2.2.2.2.2.1 x.2.2.2.2.2.2.2.2.2.2.2.2.2.2.2.2.2.2.1 x.2.2.2.2.2.2.2.2.2.2.2.2.2.2.2.2.2.2.2.1 x.2.2.2.2.2.2.2.2.2.2.2.2.2.2.2.2.2.2.2.2.1⟩
def f8.E (fuel : Nat) : Env := ⟨tis, [(20, f20.S)], [], [(3, ⟨[(0, .c (.ptr 0 0)), (1, n6), (2, n6), (3, r8), (9, .c (.bool))], [(0, .box [.row (.int .u8), .row (.int .u8), .row (.int .u8), .row (.int .u8), .row (.int .u8), .row (.int .u8), .row (.int .u8), .row (.int .u8), .row (.int .u8), .row (.int .u8), .row (.int .u8), .row (.int .u8), .row (.int .u8), .row (.int .u8), .row (.int .u8), .row (.int .u8), .int .u32, .int .i64])]⟩), (6, ⟨[(0, .c (.ptr 0 0)), (1, n6), (2, n6), (3, r8)], [(0, .box [.row (.int .u8), .row (.int .u8), .row (.int .u8), .row (.int .u8), .row (.int .u8), .row (.int .u8), .row (.int .u8), .row (.int .u8), .row (.int .u8), .row (.int .u8), .row (.int .u8), .row (.int .u8), .row (.int .u8), .row (.int .u8), .row (.int .u8), .row (.int .u8), .int .u32, .int .i64])]⟩)], [], [], 1, [0], fuel⟩
theorem f8.run : RunOk f8.E Go.Proofs.Try.f8 f8.S := by intro x; kernel_rfl
theorem f8.sound : Sound Go.Proofs.Try.prog 8 f8.S := sound_of_run (fun _ => f8.E 100000000000000000000) (by kernel_rfl) (by kernel_rfl) (by kernel_rfl) orders (fun _ => ⟨tis_ok, EqsOk.nil _, (fc f20.sound FnsOk.nil)⟩) (fun _ => rfl) (by kernel_rfl) (by kernel_rfl) (fun x r h => (f8.run x).trans h)
/-! f19: (*adit/chunk.Sender).Ack -/
def f19.L1 (x : Int × Int × Int × Int × List Bool × Unit) : Option (Int × List Bool × Unit) :=
 it (X := Int × Int × Int × Int × List Bool × Unit) (fun rec x =>
 bif decide (x.2.2.1 < x.2.1) then
 bif inRange x.2.2.1 (List.length x.2.2.2.2.1) then
 bif List.getD x.2.2.2.2.1 (Int.toNat x.2.2.1) Bool.false then
 bif inRange x.2.2.1 (List.length x.2.2.2.2.1) then
 rec (x.1, x.2.1, IntKind.wrap .i64 (x.2.2.1 + 1), x.2.2.2.1, List.set x.2.2.2.2.1 (Int.toNat x.2.2.1) Bool.true, ())
 else
 none
 else
 bif decide (x.2.2.1 < 0) then
 none
 else
 bif inRange x.2.2.1 (List.length x.2.2.2.2.1) then
 let s0 : List Bool := List.set x.2.2.2.2.1 (Int.toNat x.2.2.1) (IntKind.wrap .u32 (↑(BitVec.toNat (BitVec.ofInt (IntKind.bits IntKind.u32) (Int.fdiv x.1 (2 ^ Min.min (Int.toNat x.2.2.1) (IntKind.bits IntKind.u32))) &&& BitVec.ofInt (IntKind.bits IntKind.u32) 1)) : Int) == 1)
 rec (x.1, x.2.1, IntKind.wrap .i64 (x.2.2.1 + 1), x.2.2.2.1, s0, ())
 else
 none
 else
 none
 else
 some ((x.2.2.2.1, x.2.2.2.2.1, ()))
 ) (100000000000000000000) (x)
def f19 (a0 : Int) (a1 : Int) (a2 : List Bool) : Option (Int × List Bool × Unit) :=
 f19.L1 ((a0, (↑(List.length a2) : Int), 0, a1, a2, ()))
def f19.ins : Shape := ⟨[(0, .c (.ptr 0 0)), (1, .c (.int .u32))], [(0, .box [.own 1, .int .i64]), (1, .arr .bool)]⟩
def f19.outs : List Shape := [⟨[], [(0, .box [.own 1, .int .i64]), (1, .arr .bool)]⟩]
def f19.S : FnSpec := ⟨f19.ins, f19.outs, [0, 1], fun x => f19 x.1 x.2.1 x.2.2.1⟩
def f19.E (fuel : Nat) : Env := ⟨tis, [], [], [], [(2, ⟨[(0, .c (.ptr 0 0)), (1, .c (.int .u32)), (9, n6), (10, n6)], [(0, .box [.own 1, .int .i64]), (1, .arr .bool)]⟩)], [], 2, [0, 1], fuel⟩
theorem f19.run : RunOk f19.E Go.Proofs.Try.f19 f19.S := by intro x; kernel_rfl
theorem f19.sound : Sound Go.Proofs.Try.prog 19 f19.S := sound_of_run (fun _ => f19.E 100000000000000000000) (by kernel_rfl) (by kernel_rfl) (by kernel_rfl) orders (fun _ => ⟨tis_ok, EqsOk.nil _, FnsOk.nil⟩) (fun _ => rfl) (by kernel_rfl) (by kernel_rfl) (fun x r h => (f19.run x).trans h)
/-! f5: adit/aditlaw12.ChunkComes -/
def f5.L1 (x : List Int × Int × List Bool × List Bool × Int × Int × List (List Int) × Int × Int × Unit) : Option (Bool × Unit) :=
 it (X := List Int × Int × List Bool × List Bool × Int × Int × List (List Int) × Int × Int × Unit) (fun rec x =>
 none
 ) (100000000000000000000) (x)
def f5.L2 (k0 : List Int × Int × List Bool × List Bool × Int × Int × List (List Int) × Int × List Int × List Int × List Int × List Int × List Int × List Int × List Int × List Int × List Int × List Int × List Int × List Int × List Int × List Int × List Int × List Int × Int × Int × List Bool × Unit → Option (Bool × Unit)) (x : List Int × Int × List Bool × List Bool × Int × Int × Int × Bool × Int × List (List Int) × Int × List Int × List Int × List Int × List Int × List Int × List Int × List Int × List Int × List Int × List Int × List Int × List Int × List Int × List Int × List Int × List Int × Int × Int × List Int × List Bool × Unit) : Option (Bool × Unit) :=
 it (X := List Int × Int × List Bool × List Bool × Int × Int × Int × Bool × Int × List (List Int) × Int × List Int × List Int × List Int × List Int × List Int × List Int × List Int × List Int × List Int × List Int × List Int × List Int × List Int × List Int × List Int × List Int × Int × Int × List Int × List Bool × Unit) (fun rec x => match x with
 | (v0, v1, v2, v3, v4, v5, v6, v7, v8, v9, v10, v11, v12, v13, v14, v15, v16, v17, v18, v19, v20, v21, v22, v23, v24, v25, v26, v27, v28, v29, v30, _) =>
 bif decide (v8 ≥ 0) then
 Option.bind (α := List Int × Int × List Bool × List Bool × Int × Int × Int × Bool × Int × Bool × List (List Int) × Int × List Int × List Int × List Int × List Int × List Int × List Int × List Int × List Int × List Int × List Int × List Int × List Int × List Int × List Int × List Int × List Int × Int × Int × List Int × List Bool × Unit ⊕ Bool × Unit) (
 bif decide (v4 < (↑(List.length v2) : Int)) then
 bif decide (v4 < 100) then
 bif inRange v4 (List.length v2) then
 some (Sum.inl (v0, v1, v2, v3, v4, v5, v6, v7, v8, List.getD v2 (Int.toNat v4) Bool.false, v9, v10, v11, v12, v13, v14, v15, v16, v17, v18, v19, v20, v21, v22, v23, v24, v25, v26, v27, v28, v29, v30, ()))
 else
 none
 else
 some (Sum.inl (v0, v1, v2, v3, v4, v5, v6, v7, v8, Bool.false, v9, v10, v11, v12, v13, v14, v15, v16, v17, v18, v19, v20, v21, v22, v23, v24, v25, v26, v27, v28, v29, v30, ()))
 else
 some (Sum.inl (v0, v1, v2, v3, v4, v5, v6, v7, v8, Bool.false, v9, v10, v11, v12, v13, v14, v15, v16, v17, v18, v19, v20, v21, v22, v23, v24, v25, v26, v27, v28, v29, v30, ()))
 ) fun y0 =>
 Sum.elim (fun y1 => match y1 with
 | (u1_0, u1_1, u1_2, u1_3, u1_4, u1_5, u1_6, u1_7, u1_8, u1_9, u1_10, u1_11, u1_12, u1_13, u1_14, u1_15, u1_16, u1_17, u1_18, u1_19, u1_20, u1_21, u1_22, u1_23, u1_24, u1_25, u1_26, u1_27, u1_28, u1_29, u1_30, u1_31, _) =>
 Option.bind (α := List Int × Int × List Bool × List Bool × Int × Int × Int × Bool × Int × Bool × List (List Int) × Int × List Int × List Int × List Int × List Int × List Int × List Int × List Int × List Int × List Int × List Int × List Int × List Int × List Int × List Int × List Int × List Int × Int × Int × List Int × List Bool × Unit ⊕ Bool × Unit) (
 bif u1_7 then
 some (Sum.inl (u1_0, u1_1, u1_2, u1_3, IntKind.wrap .i64 (u1_4 + 1), u1_5, u1_6, !u1_9, u1_8, u1_9, u1_10, u1_11, u1_12, u1_13, u1_14, u1_15, u1_16, u1_17, u1_18, u1_19, u1_20, u1_21, u1_22, u1_23, u1_24, u1_25, u1_26, u1_27, u1_28, u1_29, u1_30, u1_31, ()))
 else
 some (Sum.inl (u1_0, u1_1, u1_2, u1_3, IntKind.wrap .i64 (u1_4 + 1), u1_5, u1_6, Bool.false, u1_8, u1_9, u1_10, u1_11, u1_12, u1_13, u1_14, u1_15, u1_16, u1_17, u1_18, u1_19, u1_20, u1_21, u1_22, u1_23, u1_24, u1_25, u1_26, u1_27, u1_28, u1_29, u1_30, u1_31, ()))
 ) fun y2 =>
 Sum.elim (fun y3 => match y3 with
 | (u3_0, u3_1, u3_2, u3_3, u3_4, u3_5, u3_6, u3_7, u3_8, u3_9, u3_10, u3_11, u3_12, u3_13, u3_14, u3_15, u3_16, u3_17, u3_18, u3_19, u3_20, u3_21, u3_22, u3_23, u3_24, u3_25, u3_26, u3_27, u3_28, u3_29, u3_30, u3_31, _) =>
 bif !u3_9 then
 bif inRange u3_8 (List.length u3_30) then
 bif inRange u3_8 (List.length u3_30) then
 bif inRange (List.getD u3_30 (Int.toNat u3_8) 0) (List.length u3_10) then
 Option.bind (f8 (List.getD u3_30 (Int.toNat u3_8) 0) (↑(List.length u3_10) : Int) (List.getD u3_10 (Int.toNat (List.getD u3_30 (Int.toNat u3_8) 0)) []) u3_12 u3_13 u3_14 u3_15 u3_16 u3_17 u3_18 u3_19 u3_20 u3_21 u3_22 u3_23 u3_24 u3_25 u3_26 u3_27 u3_28 u3_29) fun y4 =>
 bif y4.1 != 0 then
 some ((Bool.false, ()))
 else
 bif inRange u3_8 (List.length u3_30) then
 bif inRange u3_8 (List.length u3_30) then
 bif inRange (List.getD u3_30 (Int.toNat u3_8) 0) (List.length u3_10) then
 Option.bind (f8 (List.getD u3_30 (Int.toNat u3_8) 0) (↑(List.length u3_10) : Int) (List.getD u3_10 (Int.toNat (List.getD u3_30 (Int.toNat u3_8) 0)) []) y4.2.1 y4.2.2.1 y4.2.2.2.1 y4.2.2.2.2.1 y4.2.2.2.2.2.1 y4.2.2.2.2.2.2.1 y4.2.2.2.2.2.2.2.1 y4.2.2.2.2.2.2.2.2.1 y4.2.2.2.2.2.2.2.2.2.1 y4.2.2.2.2.2.2.2.2.2.2.1 y4.2.2.2.2.2.2.2.2.2.2.2.1 y4.2.2.2.2.2.2.2.2.2.2.2.2.1 y4.2.2.2.2.2.2.2.2.2.2.2.2.2.1 y4.2.2.2.2.2.2.2.2.2.2.2.2.2.2.1 y4.2.2.2.2.2.2.2.2.2.2.2.2.2.2.2.1 y4.2.2.2.2.2.2.2.2.2.2.2.2.2.2.2.2.1 y4.2.2.2.2.2.2.2.2.2.2.2.2.2.2.2.2.2.1 y4.2.2.2.2.2.2.2.2.2.2.2.2.2.2.2.2.2.2.1) fun y5 =>
 bif y5.1 != 0 then
 some ((Bool.false, ()))
 else
 rec (u3_0, u3_1, u3_2, u3_3, u3_4, u3_5, u3_6, u3_7, IntKind.wrap .i64 (u3_8 - 1), u3_10, u3_11, y5.2.1, y5.2.2.1, y5.2.2.2.1, y5.2.2.2.2.1, y5.2.2.2.2.2.1, y5.2.2.2.2.2.2.1, y5.2.2.2.2.2.2.2.1, y5.2.2.2.2.2.2.2.2.1, y5.2.2.2.2.2.2.2.2.2.1, y5.2.2.2.2.2.2.2.2.2.2.1, y5.2.2.2.2.2.2.2.2.2.2.2.1, y5.2.2.2.2.2.2.2.2.2.2.2.2.1, y5.2.2.2.2.2.2.2.2.2.2.2.2.2.1, y5.2.2.2.2.2.2.2.2.2.2.2.2.2.2.1, y5.2.2.2.2.2.2.2.2.2.2.2.2.2.2.2.1, y5.2.2.2.2.2.2.2.2.2.2.2.2.2.2.2.2.1, y5.2.2.2.2.2.2.2.2.2.2.2.2.2.2.2.2.2.1, y5.2.2.2.2.2.2.2.2.2.2.2.2.2.2.2.2.2.2.1, u3_30, u3_31, ())
 else
 none
 else
 none
 else
 none
 else
 none
 else
 none
 else
 none
 else
 rec (u3_0, u3_1, u3_2, u3_3, u3_4, u3_5, u3_6, u3_7, IntKind.wrap .i64 (u3_8 - 1), u3_10, u3_11, u3_12, u3_13, u3_14, u3_15, u3_16, u3_17, u3_18, u3_19, u3_20, u3_21, u3_22, u3_23, u3_24, u3_25, u3_26, u3_27, u3_28, u3_29, u3_30, u3_31, ())
 ) (fun z6 =>
 some (z6)
 ) (y2)
 ) (fun z7 =>
 some (z7)
 ) (y0)
 else
 Option.bind (f12 v11 v12 v13 v14 v15 v16 v17 v18 v19 v20 v21 v22 v23 v24 v25 v26 v27 v28) fun y8 =>
 Option.bind (α := List Int × Int × List Bool × List Bool × Int × Int × List (List Int) × Int × List Int × List Int × List Int × List Int × List Int × List Int × List Int × List Int × List Int × List Int × List Int × List Int × List Int × List Int × List Int × List Int × Int × Int × List Bool × Unit ⊕ Bool × Unit) (
 bif v7 then
 bif decide (v5 < 3) then
 bif (↑(List.length v3) : Int) == 0 then
 bif (↑(List.length v2) : Int) == 0 then
 Option.bind (f10 ((y8.2.1, y8.2.2.1, y8.2.2.2.1, y8.2.2.2.2.1, y8.2.2.2.2.2.1, y8.2.2.2.2.2.2.1, y8.2.2.2.2.2.2.2.1, y8.2.2.2.2.2.2.2.2.1, y8.2.2.2.2.2.2.2.2.2.1, y8.2.2.2.2.2.2.2.2.2.2.1, y8.2.2.2.2.2.2.2.2.2.2.2.1, y8.2.2.2.2.2.2.2.2.2.2.2.2.1, y8.2.2.2.2.2.2.2.2.2.2.2.2.2.1, y8.2.2.2.2.2.2.2.2.2.2.2.2.2.2.1, y8.2.2.2.2.2.2.2.2.2.2.2.2.2.2.2.1, y8.2.2.2.2.2.2.2.2.2.2.2.2.2.2.2.2.1), y8.2.2.2.2.2.2.2.2.2.2.2.2.2.2.2.2.2.1, y8.2.2.2.2.2.2.2.2.2.2.2.2.2.2.2.2.2.2.1)) fun y9 =>
 bif y9.1 == v6 then
 bif !y8.1 then
 some (Sum.inr (Bool.false, ()))
 else
 some (Sum.inl (v0, v1, v2, v3, v4, v5, v9, v10, y8.2.1, y8.2.2.1, y8.2.2.2.1, y8.2.2.2.2.1, y8.2.2.2.2.2.1, y8.2.2.2.2.2.2.1, y8.2.2.2.2.2.2.2.1, y8.2.2.2.2.2.2.2.2.1, y8.2.2.2.2.2.2.2.2.2.1, y8.2.2.2.2.2.2.2.2.2.2.1, y8.2.2.2.2.2.2.2.2.2.2.2.1, y8.2.2.2.2.2.2.2.2.2.2.2.2.1, y8.2.2.2.2.2.2.2.2.2.2.2.2.2.1, y8.2.2.2.2.2.2.2.2.2.2.2.2.2.2.1, y8.2.2.2.2.2.2.2.2.2.2.2.2.2.2.2.1, y8.2.2.2.2.2.2.2.2.2.2.2.2.2.2.2.2.1, y8.2.2.2.2.2.2.2.2.2.2.2.2.2.2.2.2.2.1, y8.2.2.2.2.2.2.2.2.2.2.2.2.2.2.2.2.2.2.1, v30, ()))
 else
 some (Sum.inl (v0, v1, v2, v3, v4, v5, v9, v10, y8.2.1, y8.2.2.1, y8.2.2.2.1, y8.2.2.2.2.1, y8.2.2.2.2.2.1, y8.2.2.2.2.2.2.1, y8.2.2.2.2.2.2.2.1, y8.2.2.2.2.2.2.2.2.1, y8.2.2.2.2.2.2.2.2.2.1, y8.2.2.2.2.2.2.2.2.2.2.1, y8.2.2.2.2.2.2.2.2.2.2.2.1, y8.2.2.2.2.2.2.2.2.2.2.2.2.1, y8.2.2.2.2.2.2.2.2.2.2.2.2.2.1, y8.2.2.2.2.2.2.2.2.2.2.2.2.2.2.1, y8.2.2.2.2.2.2.2.2.2.2.2.2.2.2.2.1, y8.2.2.2.2.2.2.2.2.2.2.2.2.2.2.2.2.1, y8.2.2.2.2.2.2.2.2.2.2.2.2.2.2.2.2.2.1, y8.2.2.2.2.2.2.2.2.2.2.2.2.2.2.2.2.2.2.1, v30, ()))
 else
 some (Sum.inl (v0, v1, v2, v3, v4, v5, v9, v10, y8.2.1, y8.2.2.1, y8.2.2.2.1, y8.2.2.2.2.1, y8.2.2.2.2.2.1, y8.2.2.2.2.2.2.1, y8.2.2.2.2.2.2.2.1, y8.2.2.2.2.2.2.2.2.1, y8.2.2.2.2.2.2.2.2.2.1, y8.2.2.2.2.2.2.2.2.2.2.1, y8.2.2.2.2.2.2.2.2.2.2.2.1, y8.2.2.2.2.2.2.2.2.2.2.2.2.1, y8.2.2.2.2.2.2.2.2.2.2.2.2.2.1, y8.2.2.2.2.2.2.2.2.2.2.2.2.2.2.1, y8.2.2.2.2.2.2.2.2.2.2.2.2.2.2.2.1, y8.2.2.2.2.2.2.2.2.2.2.2.2.2.2.2.2.1, y8.2.2.2.2.2.2.2.2.2.2.2.2.2.2.2.2.2.1, y8.2.2.2.2.2.2.2.2.2.2.2.2.2.2.2.2.2.2.1, v30, ()))
 else
 some (Sum.inl (v0, v1, v2, v3, v4, v5, v9, v10, y8.2.1, y8.2.2.1, y8.2.2.2.1, y8.2.2.2.2.1, y8.2.2.2.2.2.1, y8.2.2.2.2.2.2.1, y8.2.2.2.2.2.2.2.1, y8.2.2.2.2.2.2.2.2.1, y8.2.2.2.2.2.2.2.2.2.1, y8.2.2.2.2.2.2.2.2.2.2.1, y8.2.2.2.2.2.2.2.2.2.2.2.1, y8.2.2.2.2.2.2.2.2.2.2.2.2.1, y8.2.2.2.2.2.2.2.2.2.2.2.2.2.1, y8.2.2.2.2.2.2.2.2.2.2.2.2.2.2.1, y8.2.2.2.2.2.2.2.2.2.2.2.2.2.2.2.1, y8.2.2.2.2.2.2.2.2.2.2.2.2.2.2.2.2.1, y8.2.2.2.2.2.2.2.2.2.2.2.2.2.2.2.2.2.1, y8.2.2.2.2.2.2.2.2.2.2.2.2.2.2.2.2.2.2.1, v30, ()))
 else
 some (Sum.inl (v0, v1, v2, v3, v4, v5, v9, v10, y8.2.1, y8.2.2.1, y8.2.2.2.1, y8.2.2.2.2.1, y8.2.2.2.2.2.1, y8.2.2.2.2.2.2.1, y8.2.2.2.2.2.2.2.1, y8.2.2.2.2.2.2.2.2.1, y8.2.2.2.2.2.2.2.2.2.1, y8.2.2.2.2.2.2.2.2.2.2.1, y8.2.2.2.2.2.2.2.2.2.2.2.1, y8.2.2.2.2.2.2.2.2.2.2.2.2.1, y8.2.2.2.2.2.2.2.2.2.2.2.2.2.1, y8.2.2.2.2.2.2.2.2.2.2.2.2.2.2.1, y8.2.2.2.2.2.2.2.2.2.2.2.2.2.2.2.1, y8.2.2.2.2.2.2.2.2.2.2.2.2.2.2.2.2.1, y8.2.2.2.2.2.2.2.2.2.2.2.2.2.2.2.2.2.1, y8.2.2.2.2.2.2.2.2.2.2.2.2.2.2.2.2.2.2.1, v30, ()))
 else
 some (Sum.inl (v0, v1, v2, v3, v4, v5, v9, v10, y8.2.1, y8.2.2.1, y8.2.2.2.1, y8.2.2.2.2.1, y8.2.2.2.2.2.1, y8.2.2.2.2.2.2.1, y8.2.2.2.2.2.2.2.1, y8.2.2.2.2.2.2.2.2.1, y8.2.2.2.2.2.2.2.2.2.1, y8.2.2.2.2.2.2.2.2.2.2.1, y8.2.2.2.2.2.2.2.2.2.2.2.1, y8.2.2.2.2.2.2.2.2.2.2.2.2.1, y8.2.2.2.2.2.2.2.2.2.2.2.2.2.1, y8.2.2.2.2.2.2.2.2.2.2.2.2.2.2.1, y8.2.2.2.2.2.2.2.2.2.2.2.2.2.2.2.1, y8.2.2.2.2.2.2.2.2.2.2.2.2.2.2.2.2.1, y8.2.2.2.2.2.2.2.2.2.2.2.2.2.2.2.2.2.1, y8.2.2.2.2.2.2.2.2.2.2.2.2.2.2.2.2.2.2.1, v30, ()))
 ) fun y10 =>
 Sum.elim (fun y11 => match y11 with
 | (u11_0, u11_1, u11_2, u11_3, u11_4, u11_5, u11_6, u11_7, u11_8, u11_9, u11_10, u11_11, u11_12, u11_13, u11_14, u11_15, u11_16, u11_17, u11_18, u11_19, u11_20, u11_21, u11_22, u11_23, u11_24, u11_25, u11_26, _) =>
 bif decide (u11_5 ≥ (↑(List.length u11_3) : Int)) then
 Option.bind (f10 ((u11_8, u11_9, u11_10, u11_11, u11_12, u11_13, u11_14, u11_15, u11_16, u11_17, u11_18, u11_19, u11_20, u11_21, u11_22, u11_23), u11_24, u11_25)) fun y12 =>
 Option.bind (f19 y12.1 u11_7 u11_26) fun y13 =>
 k0 (u11_0, u11_1, u11_2, u11_3, u11_4, IntKind.wrap .i64 (u11_5 + 1), u11_6, y13.1, u11_8, u11_9, u11_10, u11_11, u11_12, u11_13, u11_14, u11_15, u11_16, u11_17, u11_18, u11_19, u11_20, u11_21, u11_22, u11_23, u11_24, u11_25, y13.2.1, ())
 else
 bif inRange u11_5 (List.length u11_3) then
 bif !List.getD u11_3 (Int.toNat u11_5) Bool.false then
 Option.bind (f10 ((u11_8, u11_9, u11_10, u11_11, u11_12, u11_13, u11_14, u11_15, u11_16, u11_17, u11_18, u11_19, u11_20, u11_21, u11_22, u11_23), u11_24, u11_25)) fun y14 =>
 Option.bind (f19 y14.1 u11_7 u11_26) fun y15 =>
 k0 (u11_0, u11_1, u11_2, u11_3, u11_4, IntKind.wrap .i64 (u11_5 + 1), u11_6, y15.1, u11_8, u11_9, u11_10, u11_11, u11_12, u11_13, u11_14, u11_15, u11_16, u11_17, u11_18, u11_19, u11_20, u11_21, u11_22, u11_23, u11_24, u11_25, y15.2.1, ())
 else
 k0 (u11_0, u11_1, u11_2, u11_3, u11_4, IntKind.wrap .i64 (u11_5 + 1), u11_6, u11_7, u11_8, u11_9, u11_10, u11_11, u11_12, u11_13, u11_14, u11_15, u11_16, u11_17, u11_18, u11_19, u11_20, u11_21, u11_22, u11_23, u11_24, u11_25, u11_26, ())
 else
 none
 ) (fun z16 =>
 some (z16)
 ) (y10)
 ) (100000000000000000000) (x)
def f5.L3 (x : List Int × Int × List Bool × List Bool × Int × Int × List (List Int) × Int × List Int × List Int × List Int × List Int × List Int × List Int × List Int × List Int × List Int × List Int × List Int × List Int × List Int × List Int × List Int × List Int × Int × Int × List Bool × Unit) : Option (Bool × Unit) :=
 it (X := List Int × Int × List Bool × List Bool × Int × Int × List (List Int) × Int × List Int × List Int × List Int × List Int × List Int × List Int × List Int × List Int × List Int × List Int × List Int × List Int × List Int × List Int × List Int × List Int × Int × Int × List Bool × Unit) (fun rec x => match x with
 | (v0, v1, v2, v3, v4, v5, v6, v7, v8, v9, v10, v11, v12, v13, v14, v15, v16, v17, v18, v19, v20, v21, v22, v23, v24, v25, v26, _) =>
 Option.bind (f17 (v26, v7)) fun y0 =>
 bif !y0.1 then
 bif decide (v5 > IntKind.wrap .i64 (IntKind.wrap .i64 (200 + (↑(List.length v2) : Int)) + (↑(List.length v3) : Int))) then
 some ((Bool.false, ()))
 else
 Option.bind (f10 ((v8, v9, v10, v11, v12, v13, v14, v15, v16, v17, v18, v19, v20, v21, v22, v23), v24, v25)) fun y1 =>
 Option.bind (f18 v1 v7 v26) fun y2 =>
 f5.L2 rec ((v0, v1, v2, v3, v4, v5, y1.1, Bool.true, IntKind.wrap .i64 ((↑(List.length y2.2.2.1) : Int) - 1), v6, y2.1, v8, v9, v10, v11, v12, v13, v14, v15, v16, v17, v18, v19, v20, v21, v22, v23, v24, v25, y2.2.2.1, y2.2.1, ()))
 else
 Option.bind (f12 v8 v9 v10 v11 v12 v13 v14 v15 v16 v17 v18 v19 v20 v21 v22 v23 v24 v25) fun y3 =>
 bif y3.1 then
 some ((ByteArray.toList (bytesOf y3.2.2.2.2.2.2.2.2.2.2.2.2.2.2.2.2.2.2.2.1) == ByteArray.toList (bytesOf v0), ()))
 else
 some ((Bool.false, ()))
 ) (100000000000000000000) (x)
def f5 (a0 : List Int) (a1 : Int) (a2 : List Bool) (a3 : List Bool) : Option (Bool × Unit) :=
 Option.bind (f6) fun y0 =>
 bif !y0.1 then
 some ((Bool.false, ()))
 else
 bif decide ((↑(List.length a0) : Int) > 1024) then
 some ((Bool.true, ()))
 else
 Option.bind (f15 a0) fun y1 =>
 bif y1.1 != 0 then
 some ((Bool.false, ()))
 else
 bif (↑(List.length y1.2.1) : Int) == 0 then
 some ((Bool.false, ()))
 else
 Option.bind (f16 (↑(List.length y1.2.1) : Int)) fun y2 =>
 Sum.elim (fun y3 =>
 Option.bind (f7) fun y5 =>
 Option.bind (f14 a1 6) fun y6 =>
 f5.L1 ((a0, IntKind.wrap .i64 (1 + y6.1), a2, a3, 0, 0, y1.2.1, y5.1, y5.2.1, ()))
 ) (fun z4 =>
 Option.bind (f7) fun y9 =>
 Option.bind (f14 a1 6) fun y10 =>
 f5.L3 ((a0, IntKind.wrap .i64 (1 + y10.1), a2, a3, 0, 0, y1.2.1, z4.2.1, [], [], [], [], [], [], [], [], [], [], [], [], [], [], [], [], y9.1, y9.2.1, z4.2.2.1, ()))
 ) (y2)
def f5.ins : Shape := ⟨[(0, r8), (1, n6), (2, .c (.row .bool)), (3, .c (.row .bool))], []⟩
def f5.outs : List Shape := [⟨[(0, .c (.bool))], []⟩]
def f5.S : FnSpec := ⟨f5.ins, f5.outs, [], fun x => f5 x.1 x.2.1 x.2.2.1 x.2.2.2.1⟩
def f5.E (fuel : Nat) : Env := ⟨tis, [(16, f16.S), (18, f18.S), (6, f6.S), (7, f7.S), (8, f8.S), (10, f10.S), (12, f12.S), (14, f14.S), (15, f15.S), (17, f17.S), (19, f19.S)], [], [(25, ⟨[(0, r8), (1, n6), (2, .c (.row .bool)), (3, .c (.row .bool)), (9, .c (.own 0)), (11, .c (.ptr 1 0)), (13, .c (.ptr 2 0)), (14, n6), (15, n6), (16, .c (.int .u32)), (17, .c (.bool)), (18, .c (.own 3)), (19, n6), (20, .c (.bool))], [(0, .arr (.row (.int .u8))), (1, .box [.own 4, .int .i64]), (2, .box [.row (.int .u8), .row (.int .u8), .row (.int .u8), .row (.int .u8), .row (.int .u8), .row (.int .u8), .row (.int .u8), .row (.int .u8), .row (.int .u8), .row (.int .u8), .row (.int .u8), .row (.int .u8), .row (.int .u8), .row (.int .u8), .row (.int .u8), .row (.int .u8), .int .u32, .int .i64]), (3, .arr (.int .i64)), (4, .arr .bool)]⟩), (27, ⟨[(0, r8), (1, n6), (2, .c (.row .bool)), (3, .c (.row .bool)), (9, .c (.own 0)), (11, .c (.ptr 1 0)), (13, .c (.ptr 2 0)), (14, n6), (15, n6), (16, .c (.int .u32)), (17, .c (.bool)), (18, .c (.own 3)), (19, n6), (20, .c (.bool))], [(0, .arr (.row (.int .u8))), (1, .box [.own 4, .int .i64]), (2, .box [.row (.int .u8), .row (.int .u8), .row (.int .u8), .row (.int .u8), .row (.int .u8), .row (.int .u8), .row (.int .u8), .row (.int .u8), .row (.int .u8), .row (.int .u8), .row (.int .u8), .row (.int .u8), .row (.int .u8), .row (.int .u8), .row (.int .u8), .row (.int .u8), .int .u32, .int .i64]), (3, .arr (.int .i64)), (4, .arr .bool)]⟩), (32, ⟨[(0, r8), (1, n6), (2, .c (.row .bool)), (3, .c (.row .bool)), (9, .c (.own 0)), (11, .c (.ptr 1 0)), (13, .c (.ptr 2 0)), (14, n6), (15, n6)], [(0, .arr (.row (.int .u8))), (1, .box [.own 3, .int .i64]), (2, .box [.row (.int .u8), .row (.int .u8), .row (.int .u8), .row (.int .u8), .row (.int .u8), .row (.int .u8), .row (.int .u8), .row (.int .u8), .row (.int .u8), .row (.int .u8), .row (.int .u8), .row (.int .u8), .row (.int .u8), .row (.int .u8), .row (.int .u8), .row (.int .u8), .int .u32, .int .i64]), (3, .arr .bool)]⟩)], [(14, ⟨[(0, r8), (1, n6), (2, .c (.row .bool)), (3, .c (.row .bool)), (9, .c (.own 0)), (11, .c (.nilp)), (13, .c (.ptr 1 0)), (14, n6), (15, n6)], [(0, .arr (.row (.int .u8))), (1, .box [.nils, .nils, .nils, .nils, .nils, .nils, .nils, .nils, .nils, .nils, .nils, .nils, .nils, .nils, .nils, .nils, .int .u32, .int .i64])]⟩), (14, ⟨[(0, r8), (1, n6), (2, .c (.row .bool)), (3, .c (.row .bool)), (9, .c (.own 0)), (11, .c (.ptr 1 0)), (13, .c (.ptr 2 0)), (14, n6), (15, n6)], [(0, .arr (.row (.int .u8))), (1, .box [.own 3, .int .i64]), (2, .box [.row (.int .u8), .row (.int .u8), .row (.int .u8), .row (.int .u8), .row (.int .u8), .row (.int .u8), .row (.int .u8), .row (.int .u8), .row (.int .u8), .row (.int .u8), .row (.int .u8), .row (.int .u8), .row (.int .u8), .row (.int .u8), .row (.int .u8), .row (.int .u8), .int .u32, .int .i64]), (3, .arr .bool)]⟩), (22, ⟨[(0, r8), (1, n6), (2, .c (.row .bool)), (3, .c (.row .bool)), (9, .c (.own 0)), (11, .c (.ptr 1 0)), (13, .c (.ptr 2 0)), (14, n6), (15, n6), (16, .c (.int .u32)), (17, .c (.bool)), (18, .c (.own 3)), (19, n6)], [(0, .arr (.row (.int .u8))), (1, .box [.own 4, .int .i64]), (2, .box [.row (.int .u8), .row (.int .u8), .row (.int .u8), .row (.int .u8), .row (.int .u8), .row (.int .u8), .row (.int .u8), .row (.int .u8), .row (.int .u8), .row (.int .u8), .row (.int .u8), .row (.int .u8), .row (.int .u8), .row (.int .u8), .row (.int .u8), .row (.int .u8), .int .u32, .int .i64]), (3, .arr (.int .i64)), (4, .arr .bool)]⟩)], [], 0, [], fuel⟩
theorem f5.run : RunOk f5.E Go.Proofs.Try.f5 f5.S := by intro x; kernel_rfl
theorem f5.sound : Sound Go.Proofs.Try.prog 5 f5.S := sound_of_run (fun _ => f5.E 100000000000000000000) (by kernel_rfl) (by kernel_rfl) (by kernel_rfl) orders (fun _ => ⟨tis_ok, EqsOk.nil _, (fc f16.sound (fc f18.sound (fc f6.sound (fc f7.sound (fc f8.sound (fc f10.sound (fc f12.sound (fc f14.sound (fc f15.sound (fc f17.sound (fc f19.sound FnsOk.nil)))))))))))⟩) (fun _ => rfl) (by kernel_rfl) (by kernel_rfl) (fun x r h => (f5.run x).trans h)
end
end Go.Proofs.Ytmffnlcmklapmaa.Run

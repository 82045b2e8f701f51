/- Functions of the program as Lean functions: printed by a tool of this session (own work). -/
import Derived.Test.YthdgahpomhnidaaGreatProg
import Derived.Test.YthdgahpomhnidaaGreatZ9
namespace Go.Proofs.YthdgahpomhnidaaGreat.Run
open Go Mx
abbrev tE:Ty:=.prod (.int .i64) (.prod (.int .i64) (.prod (.int .i64) (.prod (.int .i64) (.prod (.int .i64) (.prod (.int .i64) (.prod (.int .i64) (.prod (.int .i64) (.prod (.int .i64) (.prod (.int .i64) (.int .i64))))))))))
abbrev tI:Ty:=.prod (.int .i64) (.prod (.int .i64) (.prod (.int .i64) (.int .i64)))
abbrev n6:AF:=.c (.int .i64)
abbrev r8:AF:=.c (.row (.int .u8))
abbrev rE:AF:=.c (.row tE)
abbrev rI:AF:=.c (.row tI)
abbrev wS:AF:=.agg [.int .i64,.int .i64,.int .i64,.int .i64,.row (.int .u8),.row tE,.row tI,.int .i64,.int .i64,.int .i64,.int .i64]
abbrev eS:AF:=.agg [.int .i64,.int .i64,.int .i64,.int .i64,.int .i64,.int .i64,.int .i64,.int .i64,.int .i64,.int .i64,.int .i64]
def RunOk (E:Nat→Env) (fn:Func) (S:FnSpec):Prop:=∀ x,runFn (E 100000000000000000000) fn ((fn.body).getD .skip) S x = S.f x
theorem fc {P:Program} {k:Nat} {T:FnSpec} {l:List (Nat×FnSpec)} (h:Sound P k T) (hl:∀ f S,S ∈ fnsOf l f→Sound P f S):∀ f S,S ∈ fnsOf ((k,T) :: l) f→Sound P f S:=FnsOk.cons h hl
abbrev E11:=Int×Int×Int×Int×Int×Int×Int×Int×Int×Int×Int
set_option autoImplicit false
set_option linter.unusedVariables false
set_option maxRecDepth 100000
set_option maxHeartbeats 4000000
noncomputable section
def ty2:TI:=⟨.int .i64,1,8,[.int .i64 0],some (.int .i64)⟩
def ty3:TI:=⟨.int .i64,1,8,[.int .i64 0],some (.int .i64)⟩
def ty4:TI:=⟨.bool,1,1,[.bool false],some .bool⟩
def ty5:TI:=⟨.int .u8,1,1,[.int .u8 0],some (.int .u8)⟩
def ty23:TI:=⟨.slice 5,1,24,[.nils],some (.row (.int .u8))⟩
def ty24:TI:=⟨.slice 45,1,24,[.nils],some (.row (.prod (.int .i64) (.prod (.int .i64) (.prod (.int .i64) (.prod (.int .i64) (.prod (.int .i64) (.prod (.int .i64) (.prod (.int .i64) (.prod (.int .i64) (.prod (.int .i64) (.prod (.int .i64) (.int .i64))))))))))))⟩
def ty25:TI:=⟨.slice 106,1,24,[.nils],some (.row (.prod (.int .i64) (.prod (.int .i64) (.prod (.int .i64) (.int .i64)))))⟩
def ty27:TI:=⟨.struct [(0,23),(1,24),(2,25)],3,72,[.nils,.nils,.nils],some (.prod (.row (.int .u8)) (.prod (.row (.prod (.int .i64) (.prod (.int .i64) (.prod (.int .i64) (.prod (.int .i64) (.prod (.int .i64) (.prod (.int .i64) (.prod (.int .i64) (.prod (.int .i64) (.prod (.int .i64) (.prod (.int .i64) (.int .i64)))))))))))) (.row (.prod (.int .i64) (.prod (.int .i64) (.prod (.int .i64) (.int .i64)))))))⟩
def ty33:TI:=⟨.slice 3,1,24,[.nils],some (.row (.int .i64))⟩
def ty41:TI:=⟨.arr 4 3,4,32,[.int .i64 0,.int .i64 0,.int .i64 0,.int .i64 0],some (.prod (.int .i64) (.prod (.int .i64) (.prod (.int .i64) (.int .i64))))⟩
def ty43:TI:=⟨.struct [(0,2),(1,3),(2,3),(3,3),(4,23),(5,24),(6,25),(7,41)],11,136,[.int .i64 0,.int .i64 0,.int .i64 0,.int .i64 0,.nils,.nils,.nils,.int .i64 0,.int .i64 0,.int .i64 0,.int .i64 0],some (.prod (.int .i64) (.prod (.int .i64) (.prod (.int .i64) (.prod (.int .i64) (.prod (.row (.int .u8)) (.prod (.row (.prod (.int .i64) (.prod (.int .i64) (.prod (.int .i64) (.prod (.int .i64) (.prod (.int .i64) (.prod (.int .i64) (.prod (.int .i64) (.prod (.int .i64) (.prod (.int .i64) (.prod (.int .i64) (.int .i64)))))))))))) (.prod (.row (.prod (.int .i64) (.prod (.int .i64) (.prod (.int .i64) (.int .i64))))) (.prod (.int .i64) (.prod (.int .i64) (.prod (.int .i64) (.int .i64)))))))))))⟩
def ty45:TI:=⟨.struct [(0,3),(1,3),(2,3),(3,3),(4,3),(5,3),(6,3),(7,3),(8,3),(9,3),(10,3)],11,88,[.int .i64 0,.int .i64 0,.int .i64 0,.int .i64 0,.int .i64 0,.int .i64 0,.int .i64 0,.int .i64 0,.int .i64 0,.int .i64 0,.int .i64 0],some (.prod (.int .i64) (.prod (.int .i64) (.prod (.int .i64) (.prod (.int .i64) (.prod (.int .i64) (.prod (.int .i64) (.prod (.int .i64) (.prod (.int .i64) (.prod (.int .i64) (.prod (.int .i64) (.int .i64)))))))))))⟩
def ty66:TI:=⟨.int .u64,1,8,[.int .u64 0],some (.int .u64)⟩
def ty78:TI:=⟨.struct [(0,27),(3,2),(4,3),(5,33)],6,112,[.nils,.nils,.nils,.int .i64 0,.int .i64 0,.nils],some (.prod (.prod (.row (.int .u8)) (.prod (.row (.prod (.int .i64) (.prod (.int .i64) (.prod (.int .i64) (.prod (.int .i64) (.prod (.int .i64) (.prod (.int .i64) (.prod (.int .i64) (.prod (.int .i64) (.prod (.int .i64) (.prod (.int .i64) (.int .i64)))))))))))) (.row (.prod (.int .i64) (.prod (.int .i64) (.prod (.int .i64) (.int .i64))))))) (.prod (.int .i64) (.prod (.int .i64) (.row (.int .i64)))))⟩
def ty80:TI:=⟨.struct [(0,3),(1,3)],2,16,[.int .i64 0,.int .i64 0],some (.prod (.int .i64) (.int .i64))⟩
def ty81:TI:=⟨.arr 6 80,12,96,[.int .i64 0,.int .i64 0,.int .i64 0,.int .i64 0,.int .i64 0,.int .i64 0,.int .i64 0,.int .i64 0,.int .i64 0,.int .i64 0,.int .i64 0,.int .i64 0],some (.prod (.prod (.int .i64) (.int .i64)) (.prod (.prod (.int .i64) (.int .i64)) (.prod (.prod (.int .i64) (.int .i64)) (.prod (.prod (.int .i64) (.int .i64)) (.prod (.prod (.int .i64) (.int .i64)) (.prod (.int .i64) (.int .i64)))))))⟩
def ty87:TI:=⟨.slice 4,1,24,[.nils],some (.row .bool)⟩
def ty93:TI:=⟨.flt .f64,1,8,[.fint 0],none⟩
def ty99:TI:=⟨.struct [(0,43),(11,4),(12,4)],13,144,[.int .i64 0,.int .i64 0,.int .i64 0,.int .i64 0,.nils,.nils,.nils,.int .i64 0,.int .i64 0,.int .i64 0,.int .i64 0,.bool false,.bool false],some (.prod (.prod (.int .i64) (.prod (.int .i64) (.prod (.int .i64) (.prod (.int .i64) (.prod (.row (.int .u8)) (.prod (.row (.prod (.int .i64) (.prod (.int .i64) (.prod (.int .i64) (.prod (.int .i64) (.prod (.int .i64) (.prod (.int .i64) (.prod (.int .i64) (.prod (.int .i64) (.prod (.int .i64) (.prod (.int .i64) (.int .i64)))))))))))) (.prod (.row (.prod (.int .i64) (.prod (.int .i64) (.prod (.int .i64) (.int .i64))))) (.prod (.int .i64) (.prod (.int .i64) (.prod (.int .i64) (.int .i64))))))))))) (.prod .bool .bool))⟩
def ty106:TI:=⟨.struct [(0,3),(1,3),(2,3),(3,3)],4,32,[.int .i64 0,.int .i64 0,.int .i64 0,.int .i64 0],some (.prod (.int .i64) (.prod (.int .i64) (.prod (.int .i64) (.int .i64))))⟩
def ty191:TI:=⟨.struct [(0,3),(1,3)],2,16,[.int .i64 0,.int .i64 0],some (.prod (.int .i64) (.int .i64))⟩
def tis:List (Nat×TI):=[(2,ty2),(3,ty3),(4,ty4),(5,ty5),(23,ty23),(24,ty24),(25,ty25),(27,ty27),(33,ty33),(41,ty41),(43,ty43),(45,ty45),(66,ty66),(78,ty78),(80,ty80),(81,ty81),(87,ty87),(93,ty93),(99,ty99),(106,ty106),(191,ty191)]
theorem ty2_ok:TIok Go.Proofs.Tryz.prog 2 ty2:=⟨by kernel_rfl,by kernel_rfl,by kernel_rfl,by kernel_rfl,by kernel_rfl,by kernel_rfl,by kernel_rfl,by kernel_rfl⟩
theorem ty3_ok:TIok Go.Proofs.Tryz.prog 3 ty3:=⟨by kernel_rfl,by kernel_rfl,by kernel_rfl,by kernel_rfl,by kernel_rfl,by kernel_rfl,by kernel_rfl,by kernel_rfl⟩
theorem ty4_ok:TIok Go.Proofs.Tryz.prog 4 ty4:=⟨by kernel_rfl,by kernel_rfl,by kernel_rfl,by kernel_rfl,by kernel_rfl,by kernel_rfl,by kernel_rfl,by kernel_rfl⟩
theorem ty5_ok:TIok Go.Proofs.Tryz.prog 5 ty5:=⟨by kernel_rfl,by kernel_rfl,by kernel_rfl,by kernel_rfl,by kernel_rfl,by kernel_rfl,by kernel_rfl,by kernel_rfl⟩
theorem ty23_ok:TIok Go.Proofs.Tryz.prog 23 ty23:=⟨by kernel_rfl,by kernel_rfl,by kernel_rfl,by kernel_rfl,by kernel_rfl,by kernel_rfl,by kernel_rfl,by kernel_rfl⟩
theorem ty24_ok:TIok Go.Proofs.Tryz.prog 24 ty24:=⟨by kernel_rfl,by kernel_rfl,by kernel_rfl,by kernel_rfl,by kernel_rfl,by kernel_rfl,by kernel_rfl,by kernel_rfl⟩
theorem ty25_ok:TIok Go.Proofs.Tryz.prog 25 ty25:=⟨by kernel_rfl,by kernel_rfl,by kernel_rfl,by kernel_rfl,by kernel_rfl,by kernel_rfl,by kernel_rfl,by kernel_rfl⟩
theorem ty27_ok:TIok Go.Proofs.Tryz.prog 27 ty27:=⟨by kernel_rfl,by kernel_rfl,by kernel_rfl,by kernel_rfl,by kernel_rfl,by kernel_rfl,by kernel_rfl,by kernel_rfl⟩
theorem ty33_ok:TIok Go.Proofs.Tryz.prog 33 ty33:=⟨by kernel_rfl,by kernel_rfl,by kernel_rfl,by kernel_rfl,by kernel_rfl,by kernel_rfl,by kernel_rfl,by kernel_rfl⟩
theorem ty41_ok:TIok Go.Proofs.Tryz.prog 41 ty41:=⟨by kernel_rfl,by kernel_rfl,by kernel_rfl,by kernel_rfl,by kernel_rfl,by kernel_rfl,by kernel_rfl,by kernel_rfl⟩
theorem ty43_ok:TIok Go.Proofs.Tryz.prog 43 ty43:=⟨by kernel_rfl,by kernel_rfl,by kernel_rfl,by kernel_rfl,by kernel_rfl,by kernel_rfl,by kernel_rfl,by kernel_rfl⟩
theorem ty45_ok:TIok Go.Proofs.Tryz.prog 45 ty45:=⟨by kernel_rfl,by kernel_rfl,by kernel_rfl,by kernel_rfl,by kernel_rfl,by kernel_rfl,by kernel_rfl,by kernel_rfl⟩
theorem ty66_ok:TIok Go.Proofs.Tryz.prog 66 ty66:=⟨by kernel_rfl,by kernel_rfl,by kernel_rfl,by kernel_rfl,by kernel_rfl,by kernel_rfl,by kernel_rfl,by kernel_rfl⟩
theorem ty78_ok:TIok Go.Proofs.Tryz.prog 78 ty78:=⟨by kernel_rfl,by kernel_rfl,by kernel_rfl,by kernel_rfl,by kernel_rfl,by kernel_rfl,by kernel_rfl,by kernel_rfl⟩
theorem ty80_ok:TIok Go.Proofs.Tryz.prog 80 ty80:=⟨by kernel_rfl,by kernel_rfl,by kernel_rfl,by kernel_rfl,by kernel_rfl,by kernel_rfl,by kernel_rfl,by kernel_rfl⟩
theorem ty81_ok:TIok Go.Proofs.Tryz.prog 81 ty81:=⟨by kernel_rfl,by kernel_rfl,by kernel_rfl,by kernel_rfl,by kernel_rfl,by kernel_rfl,by kernel_rfl,by kernel_rfl⟩
theorem ty87_ok:TIok Go.Proofs.Tryz.prog 87 ty87:=⟨by kernel_rfl,by kernel_rfl,by kernel_rfl,by kernel_rfl,by kernel_rfl,by kernel_rfl,by kernel_rfl,by kernel_rfl⟩
theorem ty93_ok:TIok Go.Proofs.Tryz.prog 93 ty93:=⟨by kernel_rfl,by kernel_rfl,by kernel_rfl,by kernel_rfl,by kernel_rfl,by kernel_rfl,by kernel_rfl,by kernel_rfl⟩
theorem ty99_ok:TIok Go.Proofs.Tryz.prog 99 ty99:=⟨by kernel_rfl,by kernel_rfl,by kernel_rfl,by kernel_rfl,by kernel_rfl,by kernel_rfl,by kernel_rfl,by kernel_rfl⟩
theorem ty106_ok:TIok Go.Proofs.Tryz.prog 106 ty106:=⟨by kernel_rfl,by kernel_rfl,by kernel_rfl,by kernel_rfl,by kernel_rfl,by kernel_rfl,by kernel_rfl,by kernel_rfl⟩
theorem ty191_ok:TIok Go.Proofs.Tryz.prog 191 ty191:=⟨by kernel_rfl,by kernel_rfl,by kernel_rfl,by kernel_rfl,by kernel_rfl,by kernel_rfl,by kernel_rfl,by kernel_rfl⟩
theorem tis_ok:TIs Go.Proofs.Tryz.prog tis:=(TIs.cons ty2_ok (TIs.cons ty3_ok (TIs.cons ty4_ok (TIs.cons ty5_ok (TIs.cons ty23_ok (TIs.cons ty24_ok (TIs.cons ty25_ok (TIs.cons ty27_ok (TIs.cons ty33_ok (TIs.cons ty41_ok (TIs.cons ty43_ok (TIs.cons ty45_ok (TIs.cons ty66_ok (TIs.cons ty78_ok (TIs.cons ty80_ok (TIs.cons ty81_ok (TIs.cons ty87_ok (TIs.cons ty93_ok (TIs.cons ty99_ok (TIs.cons ty106_ok (TIs.cons ty191_ok (TIs.nil _))))))))))))))))))))))
theorem orders:Go.Proofs.Tryz.prog.follows .mixedOrders = true:=by kernel_rfl
theorem eq80:EqOk Go.Proofs.Tryz.prog 80 [.int .i64,.int .i64]:=eqok_of (by kernel_rfl) (by kernel_rfl) (by kernel_rfl) (by kernel_rfl)
theorem eq106:EqOk Go.Proofs.Tryz.prog 106 [.int .i64,.int .i64,.int .i64,.int .i64]:=eqok_of (by kernel_rfl) (by kernel_rfl) (by kernel_rfl) (by kernel_rfl)
theorem eq191:EqOk Go.Proofs.Tryz.prog 191 [.int .i64,.int .i64]:=eqok_of (by kernel_rfl) (by kernel_rfl) (by kernel_rfl) (by kernel_rfl)
/-! f163: adit/dice.mix -/
def f163 (a0:Int):Option (Int×Unit) :=
 some ((IntKind.wrap .u64 (↑(BitVec.toNat (BitVec.ofInt (IntKind.bits IntKind.u64) (IntKind.wrap .u64 (IntKind.wrap .u64 (↑(BitVec.toNat (BitVec.ofInt (IntKind.bits IntKind.u64) (IntKind.wrap .u64 (IntKind.wrap .u64 (↑(BitVec.toNat (BitVec.ofInt (IntKind.bits IntKind.u64) a0 ^^^ BitVec.ofInt (IntKind.bits IntKind.u64) (Int.fdiv a0 (2 ^ Min.min 30 (IntKind.bits IntKind.u64))))):Int) * 13787848793156543929)) ^^^ BitVec.ofInt (IntKind.bits IntKind.u64) (Int.fdiv (IntKind.wrap .u64 (IntKind.wrap .u64 (↑(BitVec.toNat (BitVec.ofInt (IntKind.bits IntKind.u64) a0 ^^^ BitVec.ofInt (IntKind.bits IntKind.u64) (Int.fdiv a0 (2 ^ Min.min 30 (IntKind.bits IntKind.u64))))):Int) * 13787848793156543929)) (2 ^ Min.min 27 (IntKind.bits IntKind.u64))))):Int) * 10723151780598845931)) ^^^ BitVec.ofInt (IntKind.bits IntKind.u64) (Int.fdiv (IntKind.wrap .u64 (IntKind.wrap .u64 (↑(BitVec.toNat (BitVec.ofInt (IntKind.bits IntKind.u64) (IntKind.wrap .u64 (IntKind.wrap .u64 (↑(BitVec.toNat (BitVec.ofInt (IntKind.bits IntKind.u64) a0 ^^^ BitVec.ofInt (IntKind.bits IntKind.u64) (Int.fdiv a0 (2 ^ Min.min 30 (IntKind.bits IntKind.u64))))):Int) * 13787848793156543929)) ^^^ BitVec.ofInt (IntKind.bits IntKind.u64) (Int.fdiv (IntKind.wrap .u64 (IntKind.wrap .u64 (↑(BitVec.toNat (BitVec.ofInt (IntKind.bits IntKind.u64) a0 ^^^ BitVec.ofInt (IntKind.bits IntKind.u64) (Int.fdiv a0 (2 ^ Min.min 30 (IntKind.bits IntKind.u64))))):Int) * 13787848793156543929)) (2 ^ Min.min 27 (IntKind.bits IntKind.u64))))):Int) * 10723151780598845931)) (2 ^ Min.min 31 (IntKind.bits IntKind.u64))))):Int),()))
def f163.ins:Shape:=⟨[(0,.c (.int .u64))],[]⟩
def f163.outs:List Shape:=[⟨[(0,.c (.int .u64))],[]⟩]
def f163.S:FnSpec:=⟨f163.ins,f163.outs,[],fun x=>f163 x.1⟩
def f163.E (fuel:Nat):Env:=⟨tis,[],[],[],[],[],0,[],fuel⟩
theorem f163.run:RunOk f163.E Go.Proofs.Tryz.f163 f163.S:=by intro x;kernel_rfl
theorem f163.sound:Sound Go.Proofs.Tryz.prog 163 f163.S:=sound_of_run (fun _=>f163.E 100000000000000000000) (by kernel_rfl) (by kernel_rfl) (by kernel_rfl) orders (fun _=>⟨tis_ok,EqsOk.nil _,FnsOk.nil⟩) (fun _=>rfl) (by kernel_rfl) (by kernel_rfl) (fun x r h=>(f163.run x).trans h)
/-! f128: adit/dice.Mix -/
def f128.L1 (x:Int×List Int×Int×Int×Unit):Option (Int×Unit) :=
 it (X:=Int×List Int×Int×Int×Unit) (fun rec x =>
 bif decide (x.2.2.2.1 < x.2.2.1) then
 bif inRange x.2.2.2.1 (List.length x.2.1) then
 Option.bind (f163 (IntKind.wrap .u64 (IntKind.wrap .u64 (↑(BitVec.toNat (BitVec.ofInt (IntKind.bits IntKind.u64) x.1 ^^^ BitVec.ofInt (IntKind.bits IntKind.u64) (IntKind.wrap .u64 (List.getD x.2.1 (Int.toNat x.2.2.2.1) 0)))):Int) + 11400714819323198485))) fun y0 =>
 rec (y0.1,x.2.1,x.2.2.1,IntKind.wrap .i64 (x.2.2.2.1 + 1),())
 else
 none
 else
 some ((x.1,()))
 ) (100000000000000000000) (x)
def f128 (a0:Int) (a1:List Int):Option (Int×Unit) :=
 Option.bind (f163 (IntKind.wrap .u64 (IntKind.wrap .u64 a0 + 11400714819323198485))) fun y0 =>
 f128.L1 ((y0.1,a1,(↑(List.length a1):Int),0,()))
def f128.ins:Shape:=⟨[(0,n6),(1,.c (.row (.int .i64)))],[]⟩
def f128.outs:List Shape:=[⟨[(0,.c (.int .u64))],[]⟩]
def f128.S:FnSpec:=⟨f128.ins,f128.outs,[],fun x=>f128 x.1 x.2.1⟩
def f128.E (fuel:Nat):Env:=⟨tis,[(163,f163.S)],[],[],[(4,⟨[(5,.c (.int .u64)),(12,.c (.row (.int .i64))),(13,n6),(14,n6)],[]⟩)],[],0,[],fuel⟩
theorem f128.run:RunOk f128.E Go.Proofs.Tryz.f128 f128.S:=by intro x;kernel_rfl
theorem f128.sound:Sound Go.Proofs.Tryz.prog 128 f128.S:=sound_of_run (fun _=>f128.E 100000000000000000000) (by kernel_rfl) (by kernel_rfl) (by kernel_rfl) orders (fun _=>⟨tis_ok,EqsOk.nil _,(fc f163.sound FnsOk.nil)⟩) (fun _=>rfl) (by kernel_rfl) (by kernel_rfl) (fun x r h=>(f128.run x).trans h)
/-! f71: adit/dice.Die -/
def f71 (a0:Int) (a1:Int) (a2:List Int):Option (Int×Unit) :=
 bif decide (a0 < 1) then
 some ((0,()))
 else
 Option.bind (f128 a1 a2) fun y0 =>
 bif decide (IntKind.wrap .u64 a0 = 0) then
 none
 else
 some ((IntKind.wrap .i64 (Int.tmod y0.1 (IntKind.wrap .u64 a0)),()))
def f71.ins:Shape:=⟨[(0,n6),(1,n6),(2,.c (.row (.int .i64)))],[]⟩
def f71.outs:List Shape:=[⟨[(0,n6)],[]⟩]
def f71.S:FnSpec:=⟨f71.ins,f71.outs,[],fun x=>f71 x.1 x.2.1 x.2.2.1⟩
def f71.E (fuel:Nat):Env:=⟨tis,[(128,f128.S)],[],[],[],[],0,[],fuel⟩
theorem f71.run:RunOk f71.E Go.Proofs.Tryz.f71 f71.S:=by intro x;kernel_rfl
theorem f71.sound:Sound Go.Proofs.Tryz.prog 71 f71.S:=sound_of_run (fun _=>f71.E 100000000000000000000) (by kernel_rfl) (by kernel_rfl) (by kernel_rfl) orders (fun _=>⟨tis_ok,EqsOk.nil _,(fc f128.sound FnsOk.nil)⟩) (fun _=>rfl) (by kernel_rfl) (by kernel_rfl) (fun x r h=>(f71.run x).trans h)
/-! f36: (*adit/gen.maker).die -/
def f36 (a0:(List Int×List E11×List (Int×Int×Int×Int))×Int×Int×List Int) (a1:Int) (a2:Int) (a3:Int):Option (Int×Unit) :=
 Option.bind (f71 a3 a0.2.1 [a0.2.2.1,a1,a2]) fun y0 =>
 some ((y0.1,()))
def f36.ins:Shape:=⟨[(0,.c (.bptr (.prod (.prod (.row (.int .u8)) (.prod (.row tE) (.row tI))) (.prod (.int .i64) (.prod (.int .i64) (.row (.int .i64))))))),(1,n6),(2,n6),(3,n6)],[]⟩
def f36.outs:List Shape:=[⟨[(0,n6)],[]⟩]
def f36.S:FnSpec:=⟨f36.ins,f36.outs,[],fun x=>f36 x.1 x.2.1 x.2.2.1 x.2.2.2.1⟩
def f36.E (fuel:Nat):Env:=⟨tis,[(71,f71.S)],[],[],[],[],0,[],fuel⟩
theorem f36.run:RunOk f36.E Go.Proofs.Tryz.f36 f36.S:=by intro x;kernel_rfl
theorem f36.sound:Sound Go.Proofs.Tryz.prog 36 f36.S:=sound_of_run (fun _=>f36.E 100000000000000000000) (by kernel_rfl) (by kernel_rfl) (by kernel_rfl) orders (fun _=>⟨tis_ok,EqsOk.nil _,(fc f71.sound FnsOk.nil)⟩) (fun _=>rfl) (by kernel_rfl) (by kernel_rfl) (fun x r h=>(f36.run x).trans h)
/-! f69: (adit/gen.spot).cell -/
def f69 (a0:Int) (a1:Int):Option (Int×Unit) :=
 some ((IntKind.wrap .i64 (IntKind.wrap .i64 (a1 * 24) + a0),()))
def f69.ins:Shape:=⟨[(0,.agg [.int .i64,.int .i64])],[]⟩
def f69.outs:List Shape:=[⟨[(0,n6)],[]⟩]
def f69.S:FnSpec:=⟨f69.ins,f69.outs,[],fun x=>f69 x.1 x.2.1⟩
def f69.E (fuel:Nat):Env:=⟨tis,[],[],[],[],[],0,[],fuel⟩
theorem f69.run:RunOk f69.E Go.Proofs.Tryz.f69 f69.S:=by intro x;kernel_rfl
theorem f69.sound:Sound Go.Proofs.Tryz.prog 69 f69.S:=sound_of_run (fun _=>f69.E 100000000000000000000) (by kernel_rfl) (by kernel_rfl) (by kernel_rfl) orders (fun _=>⟨tis_ok,EqsOk.nil _,FnsOk.nil⟩) (fun _=>rfl) (by kernel_rfl) (by kernel_rfl) (fun x r h=>(f69.run x).trans h)
/-! f34: (*adit/gen.maker).room -/
def f34.L1 (x:Int×Int×Int×Int×Int×Int×Int×Int×List Int×Int×Int×Unit):Option (Int×Int×Int×Int×List Int×Unit) :=
 it (X:=Int×Int×Int×Int×Int×Int×Int×Int×List Int×Int×Int×Unit) (fun rec x=>match x with
 | (v0,v1,v2,v3,v4,v5,v6,v7,v8,v9,v10,_) =>
 bif decide (v5 < v4) then
 bif decide (v0 = 0) then
 none
 else
 bif decide (v0 = 0) then
 none
 else
 Option.bind (f69 (IntKind.wrap .i64 (v2 + Int.tmod v5 v0)) (IntKind.wrap .i64 (v3 + IntKind.wrap .i64 (Int.tdiv v5 v0)))) fun y0 =>
 bif inRange y0.1 (List.length v8) then
 rec (v0,v1,v2,v3,v4,IntKind.wrap .i64 (v5 + 1),v6,v7,List.set v8 (Int.toNat y0.1) 1,v9,v10,())
 else
 none
 else
 some ((IntKind.wrap .i64 (v2 + IntKind.wrap .i64 (Int.tdiv v0 2)),IntKind.wrap .i64 (v3 + IntKind.wrap .i64 (Int.tdiv v1 2)),v6,v7,v8,()))
 ) (100000000000000000000) (x)
def f34 (a0:Int) (a1:Int) (a2:Int) (a3:List Int):Option (Int×Int×Int×Int×List Int×Unit) :=
 Option.bind (f36 ((a3,[],[]),a1,a2,[]) a0 0 5) fun y0 =>
 Option.bind (f36 ((a3,[],[]),a1,a2,[]) a0 1 4) fun y1 =>
 Option.bind (f36 ((a3,[],[]),a1,a2,[]) a0 2 (IntKind.wrap .i64 (23 - IntKind.wrap .i64 (3 + y0.1)))) fun y2 =>
 Option.bind (f36 ((a3,[],[]),a1,a2,[]) a0 3 (IntKind.wrap .i64 (15 - IntKind.wrap .i64 (2 + y1.1)))) fun y3 =>
 f34.L1 ((IntKind.wrap .i64 (3 + y0.1),IntKind.wrap .i64 (2 + y1.1),IntKind.wrap .i64 (1 + y2.1),IntKind.wrap .i64 (1 + y3.1),IntKind.wrap .i64 (IntKind.wrap .i64 (3 + y0.1) * IntKind.wrap .i64 (2 + y1.1)),0,a1,a2,a3,0,0,()))
def f34.ins:Shape:=⟨[(0,.c (.ptr 0 0)),(1,n6)],[(0,.box [.own 1,.nils,.nils,.int .i64,.int .i64,.nils]),(1,.arr (.int .u8))]⟩
def f34.outs:List Shape:=[⟨[(0,.agg [.int .i64,.int .i64])],[(0,.box [.own 1,.nils,.nils,.int .i64,.int .i64,.nils]),(1,.arr (.int .u8))]⟩]
def f34.S:FnSpec:=⟨f34.ins,f34.outs,[0,1],fun x=>f34 x.1 x.2.1 x.2.2.1 x.2.2.2.1⟩
def f34.E (fuel:Nat):Env:=⟨tis,[(36,f36.S),(69,f69.S)],[],[],[(5,⟨[(0,.c (.ptr 0 0)),(4,.c (.ptr 2 0)),(5,n6),(6,n6),(7,n6),(8,n6),(32,n6),(33,n6)],[(0,.box [.own 1,.nils,.nils,.int .i64,.int .i64,.nils]),(1,.arr (.int .u8)),(2,.box [.int .i64,.int .i64])]⟩)],[],2,[0,1],fuel⟩
theorem f34.run:RunOk f34.E Go.Proofs.Tryz.f34 f34.S:=by intro x;kernel_rfl
theorem f34.sound:Sound Go.Proofs.Tryz.prog 34 f34.S:=sound_of_run (fun _=>f34.E 100000000000000000000) (by kernel_rfl) (by kernel_rfl) (by kernel_rfl) orders (fun _=>⟨tis_ok,EqsOk.nil _,(fc f36.sound (fc f69.sound FnsOk.nil))⟩) (fun _=>rfl) (by kernel_rfl) (by kernel_rfl) (fun x r h=>(f34.run x).trans h)
/-! f70: adit/gen.toward -/
def f70 (a0:Int) (a1:Int):Option (Int×Unit) :=
 bif decide (a0 < a1) then
 some ((IntKind.wrap .i64 (a0 + 1),()))
 else
 bif decide (a0 > a1) then
 some ((IntKind.wrap .i64 (a0 - 1),()))
 else
 some ((a0,()))
def f70.ins:Shape:=⟨[(0,n6),(1,n6)],[]⟩
def f70.outs:List Shape:=[⟨[(0,n6)],[]⟩]
def f70.S:FnSpec:=⟨f70.ins,f70.outs,[],fun x=>f70 x.1 x.2.1⟩
def f70.E (fuel:Nat):Env:=⟨tis,[],[],[],[],[],0,[],fuel⟩
theorem f70.run:RunOk f70.E Go.Proofs.Tryz.f70 f70.S:=by intro x;kernel_rfl
theorem f70.sound:Sound Go.Proofs.Tryz.prog 70 f70.S:=sound_of_run (fun _=>f70.E 100000000000000000000) (by kernel_rfl) (by kernel_rfl) (by kernel_rfl) orders (fun _=>⟨tis_ok,EqsOk.nil _,FnsOk.nil⟩) (fun _=>rfl) (by kernel_rfl) (by kernel_rfl) (fun x r h=>(f70.run x).trans h)
/-! f35: (*adit/gen.maker).dig -/
def f35.L1 (x:Bool×Bool×Int×Int×List Int×Int×Int×Int×Int×Unit):Option (Int×Int×List Int×Unit) :=
 it (X:=Bool×Bool×Int×Int×List Int×Int×Int×Int×Int×Unit) (fun rec x=>match x with
 | (v0,v1,v2,v3,v4,v5,v6,v7,v8,_) =>
 Option.bind (α:=Bool×Bool×Int×Int×List Int×Int×Int×Int×Int×Unit ⊕ Int×Int×List Int×Unit) (
 Option.bind (f69 v5 v6) fun y0 =>
 bif inRange y0.1 (List.length v4) then
 bif List.getD v4 (Int.toNat y0.1) 0 == 0 then
 bif !v1 then
 some (Sum.inl (v0,Bool.true,v2,v3,List.set (List.set v4 (Int.toNat y0.1) 1) (Int.toNat y0.1) 2,v5,v6,v7,v8,()))
 else
 some (Sum.inl (v0,Bool.true,v2,v3,List.set v4 (Int.toNat y0.1) 1,v5,v6,v7,v8,()))
 else
 some (Sum.inl (v0,v1,v2,v3,v4,v5,v6,v7,v8,()))
 else
 none
 ) fun y1 =>
 Sum.elim (fun y2=>match y2 with
 | (u2_0,u2_1,u2_2,u2_3,u2_4,u2_5,u2_6,u2_7,u2_8,_) =>
 bif u2_5 == u2_7 && (u2_6 == u2_8 && Bool.true) then
 some ((u2_2,u2_3,u2_4,()))
 else
 bif u2_0 then
 bif u2_5 != u2_7 then
 Option.bind (f70 u2_5 u2_7) fun y3 =>
 rec (u2_0,u2_1,u2_2,u2_3,u2_4,y3.1,u2_6,u2_7,u2_8,())
 else
 bif u2_6 == u2_8 then
 Option.bind (f70 u2_5 u2_7) fun y4 =>
 rec (u2_0,u2_1,u2_2,u2_3,u2_4,y4.1,u2_6,u2_7,u2_8,())
 else
 Option.bind (f70 u2_6 u2_8) fun y5 =>
 rec (u2_0,u2_1,u2_2,u2_3,u2_4,u2_5,y5.1,u2_7,u2_8,())
 else
 bif u2_6 == u2_8 then
 Option.bind (f70 u2_5 u2_7) fun y6 =>
 rec (u2_0,u2_1,u2_2,u2_3,u2_4,y6.1,u2_6,u2_7,u2_8,())
 else
 Option.bind (f70 u2_6 u2_8) fun y7 =>
 rec (u2_0,u2_1,u2_2,u2_3,u2_4,u2_5,y7.1,u2_7,u2_8,())
 ) (fun z8 =>
 some (z8)
 ) (y1)
 ) (100000000000000000000) (x)
def f35 (a0:Int) (a1:Int) (a2:Int) (a3:Int) (a4:Bool) (a5:Int) (a6:Int) (a7:List Int):Option (Int×Int×List Int×Unit) :=
 Option.bind (α:=Bool×Bool×Int×Int×List Int×Int×Int×Int×Int×Unit ⊕ Int×Int×List Int×Unit) (
 Option.bind (f69 a0 a1) fun y63 =>
 bif inRange y63.1 (List.length a7) then
 bif List.getD a7 (Int.toNat y63.1) 0 == 0 then
 some (Sum.inl (a4,Bool.true,a5,a6,List.set (List.set a7 (Int.toNat y63.1) 1) (Int.toNat y63.1) 2,a0,a1,a2,a3,()))
 else
 some (Sum.inl (a4,Bool.false,a5,a6,a7,a0,a1,a2,a3,()))
 else
 none
 ) fun y0 =>
 Sum.elim (fun y1=>match y1 with
 | (u1_0,u1_1,u1_2,u1_3,u1_4,u1_5,u1_6,u1_7,u1_8,_) =>
 bif u1_5 == u1_7 && (u1_6 == u1_8 && Bool.true) then
 some ((u1_2,u1_3,u1_4,()))
 else
 bif u1_0 then
 bif u1_5 != u1_7 then
 Option.bind (f70 u1_5 u1_7) fun y3 =>
 f35.L1 ((u1_0,u1_1,u1_2,u1_3,u1_4,y3.1,u1_6,u1_7,u1_8,()))
 else
 bif u1_6 == u1_8 then
 Option.bind (f70 u1_5 u1_7) fun y15 =>
 f35.L1 ((u1_0,u1_1,u1_2,u1_3,u1_4,y15.1,u1_6,u1_7,u1_8,()))
 else
 Option.bind (f70 u1_6 u1_8) fun y27 =>
 f35.L1 ((u1_0,u1_1,u1_2,u1_3,u1_4,u1_5,y27.1,u1_7,u1_8,()))
 else
 bif u1_6 == u1_8 then
 Option.bind (f70 u1_5 u1_7) fun y39 =>
 f35.L1 ((u1_0,u1_1,u1_2,u1_3,u1_4,y39.1,u1_6,u1_7,u1_8,()))
 else
 Option.bind (f70 u1_6 u1_8) fun y51 =>
 f35.L1 ((u1_0,u1_1,u1_2,u1_3,u1_4,u1_5,y51.1,u1_7,u1_8,()))
 ) (fun z2 =>
 some (z2)
 ) (y0)
def f35.ins:Shape:=⟨[(0,.c (.ptr 0 0)),(1,.agg [.int .i64,.int .i64]),(2,.agg [.int .i64,.int .i64]),(3,.c (.bool))],[(0,.box [.own 1,.nils,.nils,.int .i64,.int .i64,.nils]),(1,.arr (.int .u8))]⟩
def f35.outs:List Shape:=[⟨[],[(0,.box [.own 1,.nils,.nils,.int .i64,.int .i64,.nils]),(1,.arr (.int .u8))]⟩]
def f35.S:FnSpec:=⟨f35.ins,f35.outs,[0,1],fun x=>f35 x.1 x.2.1 x.2.2.1 x.2.2.2.1 x.2.2.2.2.1 x.2.2.2.2.2.1 x.2.2.2.2.2.2.1 x.2.2.2.2.2.2.2.1⟩
def f35.E (fuel:Nat):Env:=⟨tis,[(69,f69.S),(70,f70.S)],[(80,[.int .i64,.int .i64])],[(10,⟨[(0,.c (.ptr 0 0)),(3,.c (.bool)),(5,.c (.ptr 2 0)),(6,.c (.ptr 3 0)),(8,.c (.bool))],[(0,.box [.own 1,.nils,.nils,.int .i64,.int .i64,.nils]),(1,.arr (.int .u8)),(2,.box [.int .i64,.int .i64]),(3,.box [.int .i64,.int .i64])]⟩)],[],[(0,⟨[(0,.c (.ptr 0 0)),(3,.c (.bool)),(5,.c (.ptr 2 0)),(6,.c (.ptr 3 0)),(8,.c (.bool))],[(0,.box [.own 1,.nils,.nils,.int .i64,.int .i64,.nils]),(1,.arr (.int .u8)),(2,.box [.int .i64,.int .i64]),(3,.box [.int .i64,.int .i64])]⟩)],2,[0,1],fuel⟩
theorem f35.run:RunOk f35.E Go.Proofs.Tryz.f35 f35.S:=by intro x;kernel_rfl
theorem f35.sound:Sound Go.Proofs.Tryz.prog 35 f35.S:=sound_of_run (fun _=>f35.E 100000000000000000000) (by kernel_rfl) (by kernel_rfl) (by kernel_rfl) orders (fun _=>⟨tis_ok,(EqsOk.cons eq80 (EqsOk.nil _)),(fc f69.sound (fc f70.sound FnsOk.nil))⟩) (fun _=>rfl) (by kernel_rfl) (by kernel_rfl) (fun x r h=>(f35.run x).trans h)
/-! f41: adit/grid.kind -/
def f41 (a0:List Int) (a1:Int):Option (Int×Unit) :=
 bif decide (a1 < 0) then
 some ((0,()))
 else
 bif decide (a1 ≥ (↑(List.length a0):Int)) then
 some ((0,()))
 else
 bif inRange a1 (List.length a0) then
 some ((IntKind.wrap .i64 (List.getD a0 (Int.toNat a1) 0),()))
 else
 none
def f41.ins:Shape:=⟨[(0,r8),(1,n6)],[]⟩
def f41.outs:List Shape:=[⟨[(0,n6)],[]⟩]
def f41.S:FnSpec:=⟨f41.ins,f41.outs,[],fun x=>f41 x.1 x.2.1⟩
def f41.E (fuel:Nat):Env:=⟨tis,[],[],[],[],[],0,[],fuel⟩
theorem f41.run:RunOk f41.E Go.Proofs.Tryz.f41 f41.S:=by intro x;kernel_rfl
theorem f41.sound:Sound Go.Proofs.Tryz.prog 41 f41.S:=sound_of_run (fun _=>f41.E 100000000000000000000) (by kernel_rfl) (by kernel_rfl) (by kernel_rfl) orders (fun _=>⟨tis_ok,EqsOk.nil _,FnsOk.nil⟩) (fun _=>rfl) (by kernel_rfl) (by kernel_rfl) (fun x r h=>(f41.run x).trans h)
/-! f15: adit/grid.Walk -/
def f15 (a0:Int):Option (Bool×Unit) :=
 bif decide (a0 ≥ 1) then
 some ((decide (a0 ≤ 5),()))
 else
 some ((Bool.false,()))
def f15.ins:Shape:=⟨[(0,n6)],[]⟩
def f15.outs:List Shape:=[⟨[(0,.c (.bool))],[]⟩]
def f15.S:FnSpec:=⟨f15.ins,f15.outs,[],fun x=>f15 x.1⟩
def f15.E (fuel:Nat):Env:=⟨tis,[],[],[],[],[],0,[],fuel⟩
theorem f15.run:RunOk f15.E Go.Proofs.Tryz.f15 f15.S:=by intro x;kernel_rfl
theorem f15.sound:Sound Go.Proofs.Tryz.prog 15 f15.S:=sound_of_run (fun _=>f15.E 100000000000000000000) (by kernel_rfl) (by kernel_rfl) (by kernel_rfl) orders (fun _=>⟨tis_ok,EqsOk.nil _,FnsOk.nil⟩) (fun _=>rfl) (by kernel_rfl) (by kernel_rfl) (fun x r h=>(f15.run x).trans h)
/-! f77: adit/grid.place -/
def f77 (a0:Int) (a1:Int):Option (Int×Unit) :=
 bif decide (a0 < 0) then
 some ((-1,()))
 else
 bif decide (a0 ≥ 24) then
 some ((-1,()))
 else
 bif decide (a1 < 0) then
 some ((-1,()))
 else
 bif decide (a1 ≥ 16) then
 some ((-1,()))
 else
 some ((IntKind.wrap .i64 (IntKind.wrap .i64 (a1 * 24) + a0),()))
def f77.ins:Shape:=⟨[(0,n6),(1,n6)],[]⟩
def f77.outs:List Shape:=[⟨[(0,n6)],[]⟩]
def f77.S:FnSpec:=⟨f77.ins,f77.outs,[],fun x=>f77 x.1 x.2.1⟩
def f77.E (fuel:Nat):Env:=⟨tis,[],[],[],[],[],0,[],fuel⟩
theorem f77.run:RunOk f77.E Go.Proofs.Tryz.f77 f77.S:=by intro x;kernel_rfl
theorem f77.sound:Sound Go.Proofs.Tryz.prog 77 f77.S:=sound_of_run (fun _=>f77.E 100000000000000000000) (by kernel_rfl) (by kernel_rfl) (by kernel_rfl) orders (fun _=>⟨tis_ok,EqsOk.nil _,FnsOk.nil⟩) (fun _=>rfl) (by kernel_rfl) (by kernel_rfl) (fun x r h=>(f77.run x).trans h)
/-! f42: adit/grid.beside -/
def f42 (a0:Int):Option (Int×Int×Int×Int×Unit) :=
 Option.bind (f77 (Int.tmod a0 24) (IntKind.wrap .i64 (IntKind.wrap .i64 (Int.tdiv a0 24) - 1))) fun y0 =>
 Option.bind (f77 (IntKind.wrap .i64 (Int.tmod a0 24 + 1)) (IntKind.wrap .i64 (Int.tdiv a0 24))) fun y1 =>
 Option.bind (f77 (Int.tmod a0 24) (IntKind.wrap .i64 (IntKind.wrap .i64 (Int.tdiv a0 24) + 1))) fun y2 =>
 Option.bind (f77 (IntKind.wrap .i64 (Int.tmod a0 24 - 1)) (IntKind.wrap .i64 (Int.tdiv a0 24))) fun y3 =>
 some ((y0.1,y1.1,y2.1,y3.1,()))
def f42.ins:Shape:=⟨[(0,n6)],[]⟩
def f42.outs:List Shape:=[⟨[(0,.agg [.int .i64,.int .i64,.int .i64,.int .i64])],[]⟩]
def f42.S:FnSpec:=⟨f42.ins,f42.outs,[],fun x=>f42 x.1⟩
def f42.E (fuel:Nat):Env:=⟨tis,[(77,f77.S)],[],[],[],[],0,[],fuel⟩
theorem f42.run:RunOk f42.E Go.Proofs.Tryz.f42 f42.S:=by intro x;kernel_rfl
theorem f42.sound:Sound Go.Proofs.Tryz.prog 42 f42.S:=sound_of_run (fun _=>f42.E 100000000000000000000) (by kernel_rfl) (by kernel_rfl) (by kernel_rfl) orders (fun _=>⟨tis_ok,EqsOk.nil _,(fc f77.sound FnsOk.nil)⟩) (fun _=>rfl) (by kernel_rfl) (by kernel_rfl) (fun x r h=>(f42.run x).trans h)
/-! f14: adit/grid.Field -/
def f14.L1 (k0:List Int×List Bool×Int×Int×Int×List Int×List Int×List Int×Unit→Option (List Int×Unit)) (x:List Int×List Bool×Int×Int×Int×Int×Int×Int×Int×Int×List Int×List Int×List Int×Unit):Option (List Int×Unit) :=
 it (X:=List Int×List Bool×Int×Int×Int×Int×Int×Int×Int×Int×List Int×List Int×List Int×Unit) (fun rec x=>match x with
 | (v0,v1,v2,v3,v4,v5,v6,v7,v8,v9,v10,v11,v12,_) =>
 bif decide (v9 < 4) then
 bif inRange v9 4 then
 Option.bind (α:=List Int×List Bool×Int×Int×Int×Int×Int×Int×Int×Int×Int×List Int×List Int×List Int×Unit ⊕ List Int×Unit) (
 bif decide (List.getD [v5,v6,v7,v8] (Int.toNat v9) 0 < 0) then
 Option.bind (rec (v0,v1,v2,v3,v4,v5,v6,v7,v8,IntKind.wrap .i64 (v9 + 1),v10,v11,v12,())) fun y0 =>
 some (Sum.inr y0)
 else
 bif inRange (List.getD [v5,v6,v7,v8] (Int.toNat v9) 0) (List.length v10) then
 bif decide (List.getD v10 (Int.toNat (List.getD [v5,v6,v7,v8] (Int.toNat v9) 0)) 0 ≥ 0) then
 Option.bind (rec (v0,v1,v2,v3,v4,v5,v6,v7,v8,IntKind.wrap .i64 (v9 + 1),v10,v11,v12,())) fun y1 =>
 some (Sum.inr y1)
 else
 Option.bind (f41 v0 (List.getD [v5,v6,v7,v8] (Int.toNat v9) 0)) fun y2 =>
 Option.bind (f15 y2.1) fun y3 =>
 bif !y3.1 then
 Option.bind (rec (v0,v1,v2,v3,v4,v5,v6,v7,v8,IntKind.wrap .i64 (v9 + 1),v10,v11,v12,())) fun y4 =>
 some (Sum.inr y4)
 else
 bif decide (List.getD [v5,v6,v7,v8] (Int.toNat v9) 0 < (↑(List.length v1):Int)) then
 bif inRange (List.getD [v5,v6,v7,v8] (Int.toNat v9) 0) (List.length v1) then
 bif List.getD v1 (Int.toNat (List.getD [v5,v6,v7,v8] (Int.toNat v9) 0)) Bool.false then
 Option.bind (rec (v0,v1,v2,v3,v4,v5,v6,v7,v8,IntKind.wrap .i64 (v9 + 1),v10,v11,v12,())) fun y5 =>
 some (Sum.inr y5)
 else
 some (Sum.inl (v0,v1,v2,List.getD [v5,v6,v7,v8] (Int.toNat v9) 0,v3,v4,v5,v6,v7,v8,v9,v10,v11,v12,()))
 else
 none
 else
 some (Sum.inl (v0,v1,v2,List.getD [v5,v6,v7,v8] (Int.toNat v9) 0,v3,v4,v5,v6,v7,v8,v9,v10,v11,v12,()))
 else
 none
 ) fun y6 =>
 Sum.elim (fun y7=>match y7 with
 | (u7_0,u7_1,u7_2,u7_3,u7_4,u7_5,u7_6,u7_7,u7_8,u7_9,u7_10,u7_11,u7_12,u7_13,_) =>
 bif inRange u7_3 (List.length u7_11) then
 bif decide (List.length u7_12 + 1 ≤ limit 8) then
 let s0:List Int:=List.set u7_11 (Int.toNat u7_3) u7_2
 rec (u7_0,u7_1,u7_2,u7_4,u7_5,u7_6,u7_7,u7_8,u7_9,IntKind.wrap .i64 (u7_10 + 1),s0,u7_12 ++ [u7_3],u7_13,())
 else
 none
 else
 none
 ) (fun z8 =>
 some (z8)
 ) (y6)
 else
 none
 else
 k0 (v0,v1,v2,v3,IntKind.wrap .i64 (v4 + 1),v10,v11,v12,())
 ) (100000000000000000000) (x)
def f14.L2 (k0:List Int×List Bool×Int×List Int×List Int×Unit→Option (List Int×Unit)) (x:List Int×List Bool×Int×Int×Int×List Int×List Int×List Int×Unit):Option (List Int×Unit) :=
 it (X:=List Int×List Bool×Int×Int×Int×List Int×List Int×List Int×Unit) (fun rec x=>match x with
 | (v0,v1,v2,v3,v4,v5,v6,v7,_) =>
 bif decide (v4 < v3) then
 bif inRange v4 (List.length v7) then
 Option.bind (f42 (List.getD v7 (Int.toNat v4) 0)) fun y0 =>
 f14.L1 rec ((v0,v1,v2,v3,v4,y0.1,y0.2.1,y0.2.2.1,y0.2.2.2.1,0,v5,v6,v7,()))
 else
 none
 else
 bif decide ((↑(List.length v6):Int) > 0) then
 k0 (v0,v1,v2,v5,v6,())
 else
 some ((v5,()))
 ) (100000000000000000000) (x)
def f14.L3 (x:List Int×List Bool×Int×List Int×List Int×Unit):Option (List Int×Unit) :=
 it (X:=List Int×List Bool×Int×List Int×List Int×Unit) (fun rec x =>
 f14.L2 rec ((x.1,x.2.1,IntKind.wrap .i64 (x.2.2.1 + 1),(↑(List.length x.2.2.2.2.1):Int),0,x.2.2.2.1,[],x.2.2.2.2.1,()))
 ) (100000000000000000000) (x)
def f14.L4 (x:List Int×List Bool×Int×Int×Int×List Int×List Int×List Int×Unit):Option (List Int×Unit) :=
 it (X:=List Int×List Bool×Int×Int×Int×List Int×List Int×List Int×Unit) (fun rec x=>match x with
 | (v0,v1,v2,v3,v4,v5,v6,v7,_) =>
 bif decide (v4 < v3) then
 bif inRange v4 (List.length v7) then
 Option.bind (f42 (List.getD v7 (Int.toNat v4) 0)) fun y0 =>
 f14.L1 rec ((v0,v1,v2,v3,v4,y0.1,y0.2.1,y0.2.2.1,y0.2.2.2.1,0,v5,v6,v7,()))
 else
 none
 else
 bif decide ((↑(List.length v6):Int) > 0) then
 f14.L3 ((v0,v1,v2,v5,v6,()))
 else
 some ((v5,()))
 ) (100000000000000000000) (x)
def f14.L5 (x:List Int×List Bool×List Int×Int×Int×List Int×List Int×Unit):Option (List Int×Unit) :=
 it (X:=List Int×List Bool×List Int×Int×Int×List Int×List Int×Unit) (fun rec x=>match x with
 | (v0,v1,v2,v3,v4,v5,v6,_) =>
 bif decide (v4 < v3) then
 bif inRange v4 (List.length v2) then
 bif decide (List.getD v2 (Int.toNat v4) 0 ≥ 0) then
 bif decide (List.getD v2 (Int.toNat v4) 0 < 384) then
 bif inRange (List.getD v2 (Int.toNat v4) 0) (List.length v5) then
 bif decide (List.getD v5 (Int.toNat (List.getD v2 (Int.toNat v4) 0)) 0 < 0) then
 Option.bind (f41 v0 (List.getD v2 (Int.toNat v4) 0)) fun y0 =>
 Option.bind (f15 y0.1) fun y1 =>
 bif y1.1 then
 bif inRange (List.getD v2 (Int.toNat v4) 0) (List.length v5) then
 bif decide (List.length v6 + 1 ≤ limit 8) then
 rec (v0,v1,v2,v3,IntKind.wrap .i64 (v4 + 1),List.set v5 (Int.toNat (List.getD v2 (Int.toNat v4) 0)) 0,v6 ++ [List.getD v2 (Int.toNat v4) 0],())
 else
 none
 else
 none
 else
 rec (v0,v1,v2,v3,IntKind.wrap .i64 (v4 + 1),v5,v6,())
 else
 rec (v0,v1,v2,v3,IntKind.wrap .i64 (v4 + 1),v5,v6,())
 else
 none
 else
 rec (v0,v1,v2,v3,IntKind.wrap .i64 (v4 + 1),v5,v6,())
 else
 rec (v0,v1,v2,v3,IntKind.wrap .i64 (v4 + 1),v5,v6,())
 else
 none
 else
 f14.L4 ((v0,v1,IntKind.wrap .i64 (0 + 1),(↑(List.length v6):Int),0,v5,[],v6,()))
 ) (100000000000000000000) (x)
def f14.L6 (x:List Int×List Bool×List Int×Int×Int×List Int×Unit):Option (List Int×Unit) :=
 it (X:=List Int×List Bool×List Int×Int×Int×List Int×Unit) (fun rec x =>
 bif decide (x.2.2.2.2.1 < x.2.2.2.1) then
 bif inRange x.2.2.2.2.1 (List.length x.2.2.2.2.2.1) then
 rec (x.1,x.2.1,x.2.2.1,x.2.2.2.1,IntKind.wrap .i64 (x.2.2.2.2.1 + 1),List.set x.2.2.2.2.2.1 (Int.toNat x.2.2.2.2.1) (-1),())
 else
 none
 else
 f14.L5 ((x.1,x.2.1,x.2.2.1,(↑(List.length x.2.2.1):Int),0,x.2.2.2.2.2.1,[],()))
 ) (100000000000000000000) (x)
def f14 (a0:List Int) (a1:List Bool) (a2:List Int):Option (List Int×Unit) :=
 f14.L6 ((a0,a1,a2,(↑(List.length (List.replicate 384 0)):Int),0,List.replicate 384 0,()))
def f14.ins:Shape:=⟨[(0,r8),(1,.c (.row .bool)),(2,.c (.row (.int .i64)))],[]⟩
def f14.outs:List Shape:=[⟨[(0,.c (.own 0))],[(0,.arr (.int .i64))]⟩]
def f14.S:FnSpec:=⟨f14.ins,f14.outs,[],fun x=>f14 x.1 x.2.1 x.2.2.1⟩
def f14.E (fuel:Nat):Env:=⟨tis,[(41,f41.S),(15,f15.S),(42,f42.S)],[],[(26,⟨[(0,r8),(1,.c (.row .bool)),(7,.c (.own 0)),(10,.c (.own 1)),(13,n6),(17,n6),(63,.c (.own 2)),(64,n6),(65,n6),(70,.agg [.int .i64,.int .i64,.int .i64,.int .i64]),(71,n6)],[(0,.arr (.int .i64)),(1,.arr (.int .i64)),(2,.arr (.int .i64))]⟩)],[(4,⟨[(0,r8),(1,.c (.row .bool)),(2,.c (.row (.int .i64))),(7,.c (.own 0)),(20,n6),(21,n6)],[(0,.arr (.int .i64))]⟩),(10,⟨[(0,r8),(1,.c (.row .bool)),(7,.c (.own 0)),(9,.c (.own 1)),(28,.c (.row (.int .i64))),(29,n6),(30,n6)],[(0,.arr (.int .i64)),(1,.arr (.int .i64))]⟩),(20,⟨[(0,r8),(1,.c (.row .bool)),(7,.c (.own 0)),(10,.c (.own 1)),(13,n6),(63,.c (.own 2)),(64,n6),(65,n6)],[(0,.arr (.int .i64)),(1,.arr (.int .i64)),(2,.arr (.int .i64))]⟩),(23,⟨[(0,r8),(1,.c (.row .bool)),(7,.c (.own 0)),(10,.c (.own 1)),(13,n6),(63,.c (.own 2)),(64,n6),(65,n6),(70,.agg [.int .i64,.int .i64,.int .i64,.int .i64]),(71,n6)],[(0,.arr (.int .i64)),(1,.arr (.int .i64)),(2,.arr (.int .i64))]⟩)],[(0,⟨[(0,r8),(1,.c (.row .bool)),(7,.c (.own 0)),(9,.c (.own 1)),(13,n6)],[(0,.arr (.int .i64)),(1,.arr (.int .i64))]⟩)],0,[],fuel⟩
theorem f14.run:RunOk f14.E Go.Proofs.Tryz.f14 f14.S:=by intro x;kernel_rfl
theorem f14.sound:Sound Go.Proofs.Tryz.prog 14 f14.S:=sound_of_run (fun _=>f14.E 100000000000000000000) (by kernel_rfl) (by kernel_rfl) (by kernel_rfl) orders (fun _=>⟨tis_ok,EqsOk.nil _,(fc f41.sound (fc f15.sound (fc f42.sound FnsOk.nil)))⟩) (fun _=>rfl) (by kernel_rfl) (by kernel_rfl) (fun x r h=>(f14.run x).trans h)
/-! f72: slices.Max[[]int,int] -/
def f72.L1 (x:List Int×Int×Int×Unit):Option (Int×Unit) :=
 it (X:=List Int×Int×Int×Unit) (fun rec x =>
 bif decide (x.2.2.1 < (↑(List.length x.1):Int)) then
 bif inRange x.2.2.1 (List.length x.1) then
 rec (x.1,maxI x.2.1 (List.getD x.1 (Int.toNat x.2.2.1) 0),IntKind.wrap .i64 (x.2.2.1 + 1),())
 else
 none
 else
 some ((x.2.1,()))
 ) (100000000000000000000) (x)
def f72 (a0:List Int):Option (Int×Unit) :=
 bif decide ((↑(List.length a0):Int) < 1) then
 none
 else
 bif inRange 0 (List.length a0) then
 f72.L1 ((a0,List.getD a0 0 0,1,()))
 else
 none
def f72.ins:Shape:=⟨[(0,.c (.row (.int .i64)))],[]⟩
def f72.outs:List Shape:=[⟨[(0,n6)],[]⟩]
def f72.S:FnSpec:=⟨f72.ins,f72.outs,[],fun x=>f72 x.1⟩
def f72.E (fuel:Nat):Env:=⟨tis,[],[],[],[(6,⟨[(0,.c (.row (.int .i64))),(3,n6),(4,n6)],[]⟩)],[],0,[],fuel⟩
theorem f72.run:RunOk f72.E Go.Proofs.Tryz.f72 f72.S:=by intro x;kernel_rfl
theorem f72.sound:Sound Go.Proofs.Tryz.prog 72 f72.S:=sound_of_run (fun _=>f72.E 100000000000000000000) (by kernel_rfl) (by kernel_rfl) (by kernel_rfl) orders (fun _=>⟨tis_ok,EqsOk.nil _,FnsOk.nil⟩) (fun _=>rfl) (by kernel_rfl) (by kernel_rfl) (fun x r h=>(f72.run x).trans h)
/-! f73: slices.Index[[]int,int] -/
def f73.L1 (x:List Int×Int×Int×Int×Unit):Option (Int×Unit) :=
 it (X:=List Int×Int×Int×Int×Unit) (fun rec x =>
 bif decide (x.2.2.2.1 < x.2.2.1) then
 bif inRange x.2.2.2.1 (List.length x.1) then
 bif x.2.1 == List.getD x.1 (Int.toNat x.2.2.2.1) 0 then
 some ((x.2.2.2.1,()))
 else
 rec (x.1,x.2.1,x.2.2.1,IntKind.wrap .i64 (x.2.2.2.1 + 1),())
 else
 none
 else
 some ((-1,()))
 ) (100000000000000000000) (x)
def f73 (a0:List Int) (a1:Int):Option (Int×Unit) :=
 f73.L1 ((a0,a1,(↑(List.length a0):Int),0,()))
def f73.ins:Shape:=⟨[(0,.c (.row (.int .i64))),(1,n6)],[]⟩
def f73.outs:List Shape:=[⟨[(0,n6)],[]⟩]
def f73.S:FnSpec:=⟨f73.ins,f73.outs,[],fun x=>f73 x.1 x.2.1⟩
def f73.E (fuel:Nat):Env:=⟨tis,[],[],[],[(3,⟨[(0,.c (.row (.int .i64))),(1,n6),(7,n6),(8,n6)],[]⟩)],[],0,[],fuel⟩
theorem f73.run:RunOk f73.E Go.Proofs.Tryz.f73 f73.S:=by intro x;kernel_rfl
theorem f73.sound:Sound Go.Proofs.Tryz.prog 73 f73.S:=sound_of_run (fun _=>f73.E 100000000000000000000) (by kernel_rfl) (by kernel_rfl) (by kernel_rfl) orders (fun _=>⟨tis_ok,EqsOk.nil _,FnsOk.nil⟩) (fun _=>rfl) (by kernel_rfl) (by kernel_rfl) (fun x r h=>(f73.run x).trans h)
/-! f37: (*adit/gen.maker).stairs -/
def f37.L1 (x:Int×Int×Int×Int×Int×List Int×List Int×Unit):Option (Int×Int×List Int×List Int×Unit) :=
 it (X:=Int×Int×Int×Int×Int×List Int×List Int×Unit) (fun rec x=>match x with
 | (v0,v1,v2,v3,v4,v5,v6,_) =>
 bif decide (v2 < v1) then
 bif inRange v2 (List.length v6) then
 bif List.getD v6 (Int.toNat v2) 0 == IntKind.wrap .i64 (Int.tdiv v0 2) then
 bif inRange v2 (List.length v5) then
 bif List.getD v5 (Int.toNat v2) 0 == 1 then
 bif inRange v2 (List.length v5) then
 some ((v3,v4,List.set v5 (Int.toNat v2) 5,v6,()))
 else
 none
 else
 rec (v0,v1,IntKind.wrap .i64 (v2 + 1),v3,v4,v5,v6,())
 else
 none
 else
 rec (v0,v1,IntKind.wrap .i64 (v2 + 1),v3,v4,v5,v6,())
 else
 none
 else
 some ((v3,v4,v5,v6,()))
 ) (100000000000000000000) (x)
def f37 (a0:Int) (a1:Int) (a2:Int) (a3:Int) (a4:List Int):Option (Int×Int×List Int×List Int×Unit) :=
 Option.bind (f69 a0 a1) fun y0 =>
 bif inRange y0.1 (List.length a4) then
 Option.bind (f69 a0 a1) fun y1 =>
 Option.bind (f14 (List.set a4 (Int.toNat y0.1) 3) [] [y1.1]) fun y2 =>
 Option.bind (f72 y2.1) fun y3 =>
 Option.bind (f73 y2.1 y3.1) fun y4 =>
 bif inRange y4.1 (List.length (List.set a4 (Int.toNat y0.1) 3)) then
 Option.bind (f36 ((List.set (List.set a4 (Int.toNat y0.1) 3) (Int.toNat y4.1) 4,[],[]),a2,a3,y2.1) 6 0 2) fun y5 =>
 bif y5.1 != 0 then
 some ((a2,a3,List.set (List.set a4 (Int.toNat y0.1) 3) (Int.toNat y4.1) 4,y2.1,()))
 else
 f37.L1 ((y3.1,(↑(List.length y2.1):Int),0,a2,a3,List.set (List.set a4 (Int.toNat y0.1) 3) (Int.toNat y4.1) 4,y2.1,()))
 else
 none
 else
 none
def f37.ins:Shape:=⟨[(0,.c (.ptr 0 0)),(1,.agg [.int .i64,.int .i64])],[(0,.box [.own 1,.nils,.nils,.int .i64,.int .i64,.nils]),(1,.arr (.int .u8))]⟩
def f37.outs:List Shape:=[⟨[],[(0,.box [.own 1,.nils,.nils,.int .i64,.int .i64,.own 2]),(1,.arr (.int .u8)),(2,.arr (.int .i64))]⟩]
def f37.S:FnSpec:=⟨f37.ins,f37.outs,[0,1],fun x=>f37 x.1 x.2.1 x.2.2.1 x.2.2.2.1 x.2.2.2.2.1⟩
def f37.E (fuel:Nat):Env:=⟨tis,[(36,f36.S),(69,f69.S),(14,f14.S),(72,f72.S),(73,f73.S)],[],[],[(8,⟨[(0,.c (.ptr 0 0)),(4,n6),(50,.c (.own 2)),(51,n6),(52,n6)],[(0,.box [.own 1,.nils,.nils,.int .i64,.int .i64,.own 2]),(1,.arr (.int .u8)),(2,.arr (.int .i64))]⟩)],[],2,[0,1],fuel⟩
theorem f37.run:RunOk f37.E Go.Proofs.Tryz.f37 f37.S:=by intro x;kernel_rfl
theorem f37.sound:Sound Go.Proofs.Tryz.prog 37 f37.S:=sound_of_run (fun _=>f37.E 100000000000000000000) (by kernel_rfl) (by kernel_rfl) (by kernel_rfl) orders (fun _=>⟨tis_ok,EqsOk.nil _,(fc f36.sound (fc f69.sound (fc f14.sound (fc f72.sound (fc f73.sound FnsOk.nil)))))⟩) (fun _=>rfl) (by kernel_rfl) (by kernel_rfl) (fun x r h=>(f37.run x).trans h)
/-! f129: slices.Contains[[]int,int] -/
def f129 (a0:List Int) (a1:Int):Option (Bool×Unit) :=
 Option.bind (f73 a0 a1) fun y0 =>
 some ((decide (y0.1 ≥ 0),()))
def f129.ins:Shape:=⟨[(0,.c (.row (.int .i64))),(1,n6)],[]⟩
def f129.outs:List Shape:=[⟨[(0,.c (.bool))],[]⟩]
def f129.S:FnSpec:=⟨f129.ins,f129.outs,[],fun x=>f129 x.1 x.2.1⟩
def f129.E (fuel:Nat):Env:=⟨tis,[(73,f73.S)],[],[],[],[],0,[],fuel⟩
theorem f129.run:RunOk f129.E Go.Proofs.Tryz.f129 f129.S:=by intro x;kernel_rfl
theorem f129.sound:Sound Go.Proofs.Tryz.prog 129 f129.S:=sound_of_run (fun _=>f129.E 100000000000000000000) (by kernel_rfl) (by kernel_rfl) (by kernel_rfl) orders (fun _=>⟨tis_ok,EqsOk.nil _,(fc f73.sound FnsOk.nil)⟩) (fun _=>rfl) (by kernel_rfl) (by kernel_rfl) (fun x r h=>(f129.run x).trans h)
/-! f74: (*adit/gen.maker).free -/
def f74.L1 (x:((List Int×List E11×List (Int×Int×Int×Int))×Int×Int×List Int)×Int×List Int×List Int×Int×Int×List Int×Unit):Option (List Int×Unit) :=
 it (X:=((List Int×List E11×List (Int×Int×Int×Int))×Int×Int×List Int)×Int×List Int×List Int×Int×Int×List Int×Unit) (fun rec x=>match x with
 | (v0,v1,v2,v3,v4,v5,v6,_) =>
 bif decide (v5 < v4) then
 bif inRange v5 (List.length v3) then
 bif inRange v5 (List.length v0.1.1) then
 bif List.getD v0.1.1 (Int.toNat v5) 0 == 1 then
 bif decide (List.getD v3 (Int.toNat v5) 0 ≥ v1) then
 Option.bind (f129 v2 v5) fun y0 =>
 bif !y0.1 then
 bif decide (List.length v6 + 1 ≤ limit 8) then
 rec (v0,v1,v2,v3,v4,IntKind.wrap .i64 (v5 + 1),v6 ++ [v5],())
 else
 none
 else
 rec (v0,v1,v2,v3,v4,IntKind.wrap .i64 (v5 + 1),v6,())
 else
 rec (v0,v1,v2,v3,v4,IntKind.wrap .i64 (v5 + 1),v6,())
 else
 rec (v0,v1,v2,v3,v4,IntKind.wrap .i64 (v5 + 1),v6,())
 else
 none
 else
 none
 else
 some ((v6,()))
 ) (100000000000000000000) (x)
def f74 (a0:(List Int×List E11×List (Int×Int×Int×Int))×Int×Int×List Int) (a1:Int) (a2:List Int):Option (List Int×Unit) :=
 f74.L1 ((a0,a1,a2,a0.2.2.2,(↑(List.length a0.2.2.2):Int),0,[],()))
def f74.ins:Shape:=⟨[(0,.c (.bptr (.prod (.prod (.row (.int .u8)) (.prod (.row tE) (.row tI))) (.prod (.int .i64) (.prod (.int .i64) (.row (.int .i64))))))),(1,n6),(2,.c (.row (.int .i64)))],[]⟩
def f74.outs:List Shape:=[⟨[(0,.c (.own 0))],[(0,.arr (.int .i64))]⟩]
def f74.S:FnSpec:=⟨f74.ins,f74.outs,[],fun x=>f74 x.1 x.2.1 x.2.2.1⟩
def f74.E (fuel:Nat):Env:=⟨tis,[(129,f129.S)],[],[],[(4,⟨[(0,.c (.bptr (.prod (.prod (.row (.int .u8)) (.prod (.row tE) (.row tI))) (.prod (.int .i64) (.prod (.int .i64) (.row (.int .i64))))))),(1,n6),(2,.c (.row (.int .i64))),(7,.c (.own 0)),(13,.c (.row (.int .i64))),(14,n6),(15,n6)],[(0,.arr (.int .i64))]⟩)],[],0,[],fuel⟩
theorem f74.run:RunOk f74.E Go.Proofs.Tryz.f74 f74.S:=by intro x;kernel_rfl
theorem f74.sound:Sound Go.Proofs.Tryz.prog 74 f74.S:=sound_of_run (fun _=>f74.E 100000000000000000000) (by kernel_rfl) (by kernel_rfl) (by kernel_rfl) orders (fun _=>⟨tis_ok,EqsOk.nil _,(fc f129.sound FnsOk.nil)⟩) (fun _=>rfl) (by kernel_rfl) (by kernel_rfl) (fun x r h=>(f74.run x).trans h)
/-! f75: adit/ents.Stats -/
def f75 (a0:Int):Option (Int×Int×Int×Int×Int×Int×Int×Int×Int×Int×Int×Unit) :=
 Option.bind (α:=Int×Int×Int×Int×Int×Int×Int×Int×Int×Int×Int×Int×Int×Int×Int×Int×Int×Int×Int×Int×Int×Int×Unit ⊕ Int×Int×Int×Int×Int×Int×Int×Int×Int×Int×Int×Unit) (
 bif a0 == 1 then
 some (Sum.inl (0,0,0,0,0,0,0,0,0,0,0,a0,0,0,0,0,20,0,5,1,0,0,()))
 else
 bif a0 == 2 then
 some (Sum.inl (0,0,0,0,0,0,0,0,0,0,0,a0,0,0,0,0,4,0,2,0,0,0,()))
 else
 bif a0 == 3 then
 some (Sum.inl (0,0,0,0,0,0,0,0,0,0,0,a0,0,0,0,0,9,0,4,1,0,0,()))
 else
 bif a0 == 4 then
 some (Sum.inl (0,0,0,0,0,0,0,0,0,0,0,a0,0,0,0,0,6,0,3,0,0,0,()))
 else
 some (Sum.inr (0,0,0,0,0,0,0,0,0,0,0,()))
 ) fun y0 =>
 Sum.elim (fun y1=>match y1 with
 | (_,_,_,_,_,_,_,_,_,_,_,u1_11,u1_12,u1_13,u1_14,u1_15,u1_16,_,u1_18,u1_19,u1_20,u1_21,_) =>
 some ((u1_11,u1_12,u1_13,u1_14,u1_15,u1_16,u1_16,u1_18,u1_19,u1_20,u1_21,()))
 ) (fun z2 =>
 some (z2)
 ) (y0)
def f75.ins:Shape:=⟨[(0,n6)],[]⟩
def f75.outs:List Shape:=[⟨[(0,eS)],[]⟩]
def f75.S:FnSpec:=⟨f75.ins,f75.outs,[],fun x=>f75 x.1⟩
def f75.E (fuel:Nat):Env:=⟨tis,[],[],[(13,⟨[(2,.c (.ptr 0 0)),(3,.c (.ptr 1 0))],[(0,.box [.int .i64,.int .i64,.int .i64,.int .i64,.int .i64,.int .i64,.int .i64,.int .i64,.int .i64,.int .i64,.int .i64]),(1,.box [.int .i64,.int .i64,.int .i64,.int .i64,.int .i64,.int .i64,.int .i64,.int .i64,.int .i64,.int .i64,.int .i64])]⟩)],[],[],0,[],fuel⟩
theorem f75.run:RunOk f75.E Go.Proofs.Tryz.f75 f75.S:=by intro x;kernel_rfl
theorem f75.sound:Sound Go.Proofs.Tryz.prog 75 f75.S:=sound_of_run (fun _=>f75.E 100000000000000000000) (by kernel_rfl) (by kernel_rfl) (by kernel_rfl) orders (fun _=>⟨tis_ok,EqsOk.nil _,FnsOk.nil⟩) (fun _=>rfl) (by kernel_rfl) (by kernel_rfl) (fun x r h=>(f75.run x).trans h)
/-! f38: (*adit/gen.maker).monsters -/
def f38.L1 (x:Int×Int×Int×Int×List Int×List Int×List Int×List E11×Unit):Option (Int×Int×List Int×List Int×List E11×Unit) :=
 it (X:=Int×Int×Int×Int×List Int×List Int×List Int×List E11×Unit) (fun rec x=>match x with
 | (v0,v1,v2,v3,v4,v5,v6,v7,_) =>
 bif decide (v1 < v0) then
 Option.bind (f74 ((v4,v7,[]),v2,v3,v5) 4 v6) fun y0 =>
 bif (↑(List.length y0.1):Int) == 0 then
 some ((v2,v3,v4,v5,v7,()))
 else
 Option.bind (f36 ((v4,v7,[]),v2,v3,v5) (IntKind.wrap .i64 (7 + v1)) 0 (↑(List.length y0.1):Int)) fun y1 =>
 bif inRange y1.1 (List.length y0.1) then
 bif decide (List.length v6 + 1 ≤ limit 8) then
 Option.bind (f36 ((v4,v7,[]),v2,v3,v5) (IntKind.wrap .i64 (16 + v1)) 1 (minI (IntKind.wrap .i64 (v3 + 1)) 3)) fun y2 =>
 Option.bind (f75 (IntKind.wrap .i64 (2 + y2.1))) fun y3 =>
 bif decide (List.length v7 + 1 ≤ limit 88) then
 rec (v0,IntKind.wrap .i64 (v1 + 1),v2,v3,v4,v5,v6 ++ [List.getD y0.1 (Int.toNat y1.1) 0],v7 ++ [(y3.1,y3.2.1,y3.2.2.1,Int.tmod (List.getD y0.1 (Int.toNat y1.1) 0) 24,IntKind.wrap .i64 (Int.tdiv (List.getD y0.1 (Int.toNat y1.1) 0) 24),y3.2.2.2.2.2.1,y3.2.2.2.2.2.2.1,y3.2.2.2.2.2.2.2.1,y3.2.2.2.2.2.2.2.2.1,y3.2.2.2.2.2.2.2.2.2.1,y3.2.2.2.2.2.2.2.2.2.2.1)],())
 else
 none
 else
 none
 else
 none
 else
 some ((v2,v3,v4,v5,v7,()))
 ) (100000000000000000000) (x)
def f38 (a0:Int) (a1:Int) (a2:List Int) (a3:List Int):Option (Int×Int×List Int×List Int×List E11×Unit) :=
 f38.L1 ((IntKind.wrap .i64 (a1 + 2),0,a0,a1,a2,a3,[],[],()))
def f38.ins:Shape:=⟨[(0,.c (.ptr 0 0))],[(0,.box [.own 1,.nils,.nils,.int .i64,.int .i64,.own 2]),(1,.arr (.int .u8)),(2,.arr (.int .i64))]⟩
def f38.outs:List Shape:=[⟨[],[(0,.box [.own 1,.own 3,.nils,.int .i64,.int .i64,.own 2]),(1,.arr (.int .u8)),(2,.arr (.int .i64)),(3,.arr tE)]⟩]
def f38.S:FnSpec:=⟨f38.ins,f38.outs,[0,1,2],fun x=>f38 x.1 x.2.1 x.2.2.1 x.2.2.2.1⟩
def f38.E (fuel:Nat):Env:=⟨tis,[(36,f36.S),(74,f74.S),(75,f75.S)],[],[],[(3,⟨[(0,.c (.ptr 0 0)),(2,.c (.own 3)),(11,n6),(12,n6)],[(0,.box [.own 1,.own 4,.nils,.int .i64,.int .i64,.own 2]),(1,.arr (.int .u8)),(2,.arr (.int .i64)),(3,.arr (.int .i64)),(4,.arr tE)]⟩)],[],3,[0,1,2],fuel⟩
theorem f38.run:RunOk f38.E Go.Proofs.Tryz.f38 f38.S:=by intro x;kernel_rfl
theorem f38.sound:Sound Go.Proofs.Tryz.prog 38 f38.S:=sound_of_run (fun _=>f38.E 100000000000000000000) (by kernel_rfl) (by kernel_rfl) (by kernel_rfl) orders (fun _=>⟨tis_ok,EqsOk.nil _,(fc f36.sound (fc f74.sound (fc f75.sound FnsOk.nil)))⟩) (fun _=>rfl) (by kernel_rfl) (by kernel_rfl) (fun x r h=>(f38.run x).trans h)
/-! f40: bytes.IndexByte -/
def f40 (a0:List Int) (a1:Int):Option (Int×Unit):=idxF a0 a1
def f40.S:FnSpec:=⟨idxIns,idxOuts,[],fun x=>f40 x.1 x.2.1⟩
def f40.E:Env:=⟨tis,[],[],[],[],[],0,[],1⟩
theorem f40.sound:Sound Go.Proofs.Tryz.prog 40 f40.S:=index_sound (fn:=Go.Proofs.Tryz.f40) (fn2:=Go.Proofs.Tryz.f76) (f2:=76) (t:=23) (u:=5) (q:=3) f40.E (by kernel_rfl) (by kernel_rfl) (by kernel_rfl) orders (by kernel_rfl) (by kernel_rfl) (by kernel_rfl) (by kernel_rfl) (by kernel_rfl) (by kernel_rfl) ⟨tis_ok,EqsOk.nil _,FnsOk.nil⟩ rfl (by intro l c A K;kernel_rfl) (by intro l c n;kernel_rfl)
/-! f13: adit/grid.Find -/
def f13 (a0:List Int) (a1:Int):Option (Int×Unit) :=
 bif decide (a1 < 0) then
 some ((-1,()))
 else
 bif decide (a1 > 255) then
 some ((-1,()))
 else
 bif decide ((0:Int) ≤ 0∧0 ≤ minI (↑(List.length a0):Int) 384∧minI (↑(List.length a0):Int) 384 ≤ (↑(List.length a0):Int)) then
 Option.bind (f40 (List.drop 0 (List.take (Int.toNat (minI (↑(List.length a0):Int) 384)) a0)) (IntKind.wrap .u8 a1)) fun y0 =>
 some ((y0.1,()))
 else
 none
def f13.ins:Shape:=⟨[(0,r8),(1,n6)],[]⟩
def f13.outs:List Shape:=[⟨[(0,n6)],[]⟩]
def f13.S:FnSpec:=⟨f13.ins,f13.outs,[],fun x=>f13 x.1 x.2.1⟩
def f13.E (fuel:Nat):Env:=⟨tis,[(40,f40.S)],[],[],[],[],0,[],fuel⟩
theorem f13.run:RunOk f13.E Go.Proofs.Tryz.f13 f13.S:=by intro x;kernel_rfl
theorem f13.sound:Sound Go.Proofs.Tryz.prog 13 f13.S:=sound_of_run (fun _=>f13.E 100000000000000000000) (by kernel_rfl) (by kernel_rfl) (by kernel_rfl) orders (fun _=>⟨tis_ok,EqsOk.nil _,(fc f40.sound FnsOk.nil)⟩) (fun _=>rfl) (by kernel_rfl) (by kernel_rfl) (fun x r h=>(f13.run x).trans h)
/-! f39: (*adit/gen.maker).items -/
def f39.L1 (x:Int×Int×Int×List Int×List E11×List Int×List (Int×Int×Int×Int)×Unit):Option (Int×Int×List Int×List E11×List Int×List (Int×Int×Int×Int)×Unit) :=
 it (X:=Int×Int×Int×List Int×List E11×List Int×List (Int×Int×Int×Int)×Unit) (fun rec x=>match x with
 | (v0,v1,v2,v3,v4,v5,v6,_) =>
 bif decide (v0 < 3) then
 Option.bind (f36 ((v3,v4,v6),v1,v2,v5) (IntKind.wrap .i64 (50 + v0)) 1 3) fun y0 =>
 bif decide (List.length v6 + 1 ≤ limit 32) then
 rec (IntKind.wrap .i64 (v0 + 1),v1,v2,v3,v4,v5,v6 ++ [(IntKind.wrap .i64 (1 + y0.1),4,v0,0)],())
 else
 none
 else
 some ((v1,v2,v3,v4,v5,v6,()))
 ) (100000000000000000000) (x)
def f39.L2 (x:Int×Int×Int×List Int×List E11×List Int×List Int×List (Int×Int×Int×Int)×Unit):Option (Int×Int×List Int×List E11×List Int×List (Int×Int×Int×Int)×Unit) :=
 it (X:=Int×Int×Int×List Int×List E11×List Int×List Int×List (Int×Int×Int×Int)×Unit) (fun rec x=>match x with
 | (v0,v1,v2,v3,v4,v5,v6,v7,_) =>
 bif decide (v0 < 4) then
 Option.bind (f74 ((v3,v4,v7),v1,v2,v5) (-1) v6) fun y0 =>
 bif (↑(List.length y0.1):Int) == 0 then
 rec (IntKind.wrap .i64 (v0 + 1),v1,v2,v3,v4,v5,v6,v7,())
 else
 Option.bind (f36 ((v3,v4,v7),v1,v2,v5) (IntKind.wrap .i64 (40 + v0)) 0 (↑(List.length y0.1):Int)) fun y1 =>
 bif inRange y1.1 (List.length y0.1) then
 bif decide (List.length v6 + 1 ≤ limit 8) then
 Option.bind (f36 ((v3,v4,v7),v1,v2,v5) (IntKind.wrap .i64 (40 + v0)) 1 4) fun y2 =>
 bif decide (List.length v7 + 1 ≤ limit 32) then
 rec (IntKind.wrap .i64 (v0 + 1),v1,v2,v3,v4,v5,v6 ++ [List.getD y0.1 (Int.toNat y1.1) 0],v7 ++ [(IntKind.wrap .i64 (1 + y2.1),1,Int.tmod (List.getD y0.1 (Int.toNat y1.1) 0) 24,IntKind.wrap .i64 (Int.tdiv (List.getD y0.1 (Int.toNat y1.1) 0) 24))],())
 else
 none
 else
 none
 else
 none
 else
 Option.bind (f13 v3 5) fun y3 =>
 bif decide (y3.1 < 0) then
 some ((v1,v2,v3,v4,v5,v7,()))
 else
 f39.L1 ((0,v1,v2,v3,v4,v5,v7,()))
 ) (100000000000000000000) (x)
def f39 (a0:Int) (a1:Int) (a2:List Int) (a3:List E11) (a4:List Int):Option (Int×Int×List Int×List E11×List Int×List (Int×Int×Int×Int)×Unit) :=
 f39.L2 ((0,a0,a1,a2,a3,a4,[],[],()))
def f39.ins:Shape:=⟨[(0,.c (.ptr 0 0))],[(0,.box [.own 1,.own 2,.nils,.int .i64,.int .i64,.own 3]),(1,.arr (.int .u8)),(2,.arr tE),(3,.arr (.int .i64))]⟩
def f39.outs:List Shape:=[⟨[],[(0,.box [.own 1,.own 2,.own 4,.int .i64,.int .i64,.own 3]),(1,.arr (.int .u8)),(2,.arr tE),(3,.arr (.int .i64)),(4,.arr tI)]⟩]
def f39.S:FnSpec:=⟨f39.ins,f39.outs,[0,1,2,3],fun x=>f39 x.1 x.2.1 x.2.2.1 x.2.2.2.1 x.2.2.2.2.1⟩
def f39.E (fuel:Nat):Env:=⟨tis,[(36,f36.S),(74,f74.S),(13,f13.S)],[],[],[(3,⟨[(0,.c (.ptr 0 0)),(2,.c (.own 4)),(7,n6)],[(0,.box [.own 1,.own 2,.own 5,.int .i64,.int .i64,.own 3]),(1,.arr (.int .u8)),(2,.arr tE),(3,.arr (.int .i64)),(4,.arr (.int .i64)),(5,.arr tI)]⟩),(13,⟨[(0,.c (.ptr 0 0)),(58,n6)],[(0,.box [.own 1,.own 2,.own 4,.int .i64,.int .i64,.own 3]),(1,.arr (.int .u8)),(2,.arr tE),(3,.arr (.int .i64)),(4,.arr tI)]⟩)],[],4,[0,1,2,3],fuel⟩
theorem f39.run:RunOk f39.E Go.Proofs.Tryz.f39 f39.S:=by intro x;kernel_rfl
theorem f39.sound:Sound Go.Proofs.Tryz.prog 39 f39.S:=sound_of_run (fun _=>f39.E 100000000000000000000) (by kernel_rfl) (by kernel_rfl) (by kernel_rfl) orders (fun _=>⟨tis_ok,EqsOk.nil _,(fc f36.sound (fc f74.sound (fc f13.sound FnsOk.nil)))⟩) (fun _=>rfl) (by kernel_rfl) (by kernel_rfl) (fun x r h=>(f39.run x).trans h)
/-! f11: adit/gen.Make -/
def f11.L1 (x:Int×Int×Int×Int×Int×Int×Int×Int×Int×Int×Int×Int×Int×Int×Int×List Int×Unit):Option (Int×List Int×List E11×List (Int×Int×Int×Int)×Unit) :=
 it (X:=Int×Int×Int×Int×Int×Int×Int×Int×Int×Int×Int×Int×Int×Int×Int×List Int×Unit) (fun rec x=>match x with
 | (v0,v1,v2,v3,v4,v5,v6,v7,v8,v9,v10,v11,v12,v13,v14,v15,_) =>
 bif decide (v0 < 6) then
 bif inRange (IntKind.wrap .i64 (v0 - 1)) 6 then
 bif inRange v0 6 then
 Option.bind (f36 ((v15,[],[]),v1,v2,[]) v0 4 2) fun y0 =>
 Option.bind (f35 (List.getD [v3,v5,v7,v9,v11,v13] (Int.toNat (IntKind.wrap .i64 (v0 - 1))) 0) (List.getD [v4,v6,v8,v10,v12,v14] (Int.toNat (IntKind.wrap .i64 (v0 - 1))) 0) (List.getD [v3,v5,v7,v9,v11,v13] (Int.toNat v0) 0) (List.getD [v4,v6,v8,v10,v12,v14] (Int.toNat v0) 0) (y0.1 == 0) v1 v2 v15) fun y1 =>
 rec (IntKind.wrap .i64 (v0 + 1),y1.1,y1.2.1,v3,v4,v5,v6,v7,v8,v9,v10,v11,v12,v13,v14,y1.2.2.1,())
 else
 none
 else
 none
 else
 Option.bind (f37 v3 v4 v1 v2 v15) fun y2 =>
 Option.bind (f38 y2.1 y2.2.1 y2.2.2.1 y2.2.2.2.1) fun y3 =>
 Option.bind (f39 y3.1 y3.2.1 y3.2.2.1 y3.2.2.2.2.1 y3.2.2.2.1) fun y4 =>
 some ((0,y4.2.2.1,y4.2.2.2.1,y4.2.2.2.2.2.1,()))
 ) (100000000000000000000) (x)
def f11.L2 (x:Int×Int×Int×Int×Int×Int×Int×Int×Int×Int×Int×Int×Int×Int×Int×List Int×Unit):Option (Int×List Int×List E11×List (Int×Int×Int×Int)×Unit) :=
 it (X:=Int×Int×Int×Int×Int×Int×Int×Int×Int×Int×Int×Int×Int×Int×Int×List Int×Unit) (fun rec x=>match x with
 | (v0,v1,v2,v3,v4,v5,v6,v7,v8,v9,v10,v11,v12,v13,v14,v15,_) =>
 bif decide (v0 < 6) then
 Option.bind (f34 v0 v1 v2 v15) fun y0 =>
 bif inRange v0 6 then
 rec (IntKind.wrap .i64 (v0 + 1),y0.2.2.1,y0.2.2.2.1,if Int.toNat v0 = 0 / 2 then y0.1 else v3,if Int.toNat v0 = (0 + 1) / 2 then y0.2.1 else v4,if Int.toNat v0 = (0 + 1 + 1) / 2 then y0.1 else v5,if Int.toNat v0 = (0 + 1 + 1 + 1) / 2 then y0.2.1 else v6,if Int.toNat v0 = (0 + 1 + 1 + 1 + 1) / 2 then y0.1 else v7,if Int.toNat v0 = (0 + 1 + 1 + 1 + 1 + 1) / 2 then y0.2.1 else v8,if Int.toNat v0 = (0 + 1 + 1 + 1 + 1 + 1 + 1) / 2 then y0.1 else v9,if Int.toNat v0 = (0 + 1 + 1 + 1 + 1 + 1 + 1 + 1) / 2 then y0.2.1 else v10,if Int.toNat v0 = (0 + 1 + 1 + 1 + 1 + 1 + 1 + 1 + 1) / 2 then y0.1 else v11,if Int.toNat v0 = (0 + 1 + 1 + 1 + 1 + 1 + 1 + 1 + 1 + 1) / 2 then y0.2.1 else v12,if Int.toNat v0 = (0 + 1 + 1 + 1 + 1 + 1 + 1 + 1 + 1 + 1 + 1) / 2 then y0.1 else v13,if Int.toNat v0 = (0 + 1 + 1 + 1 + 1 + 1 + 1 + 1 + 1 + 1 + 1 + 1) / 2 then y0.2.1 else v14,y0.2.2.2.2.1,())
 else
 none
 else
 f11.L1 ((1,v1,v2,v3,v4,v5,v6,v7,v8,v9,v10,v11,v12,v13,v14,v15,()))
 ) (100000000000000000000) (x)
def f11 (a0:Int) (a1:Int):Option (Int×List Int×List E11×List (Int×Int×Int×Int)×Unit) :=
 bif decide (a1 < 1) then
 some ((1,[],[],[],()))
 else
 bif decide (a1 > 3) then
 some ((1,[],[],[],()))
 else
 f11.L2 ((0,a0,a1,0,0,0,0,0,0,0,0,0,0,0,0,List.replicate 384 0,()))
def f11.ins:Shape:=⟨[(0,n6),(1,n6)],[]⟩
def f11.outs:List Shape:=[⟨[(0,.agg [.own 0,.own 1,.own 2]),(1,n6)],[(0,.arr (.int .u8)),(1,.arr tE),(2,.arr tI)]⟩]
def f11.S:FnSpec:=⟨f11.ins,f11.outs,[],fun x=>f11 x.1 x.2.1⟩
def f11.E (fuel:Nat):Env:=⟨tis,[(36,f36.S),(34,f34.S),(35,f35.S),(37,f37.S),(38,f38.S),(39,f39.S)],[],[],[(7,⟨[(4,.c (.ptr 0 0)),(6,.c (.ptr 1 0)),(7,.c (.ptr 2 0)),(23,n6)],[(0,.box [.nils,.nils,.nils]),(1,.box [.own 3,.nils,.nils,.int .i64,.int .i64,.nils]),(2,.box [.int .i64,.int .i64,.int .i64,.int .i64,.int .i64,.int .i64,.int .i64,.int .i64,.int .i64,.int .i64,.int .i64,.int .i64]),(3,.arr (.int .u8))]⟩),(12,⟨[(4,.c (.ptr 0 0)),(6,.c (.ptr 1 0)),(7,.c (.ptr 2 0)),(9,n6)],[(0,.box [.nils,.nils,.nils]),(1,.box [.own 3,.nils,.nils,.int .i64,.int .i64,.nils]),(2,.box [.int .i64,.int .i64,.int .i64,.int .i64,.int .i64,.int .i64,.int .i64,.int .i64,.int .i64,.int .i64,.int .i64,.int .i64]),(3,.arr (.int .u8))]⟩)],[],0,[],fuel⟩
theorem f11.run:RunOk f11.E Go.Proofs.Tryz.f11 f11.S:=by intro x;kernel_rfl
theorem f11.sound:Sound Go.Proofs.Tryz.prog 11 f11.S:=sound_of_run (fun _=>f11.E 100000000000000000000) (by kernel_rfl) (by kernel_rfl) (by kernel_rfl) orders (fun _=>⟨tis_ok,EqsOk.nil _,(fc f36.sound (fc f34.sound (fc f35.sound (fc f37.sound (fc f38.sound (fc f39.sound FnsOk.nil))))))⟩) (fun _=>rfl) (by kernel_rfl) (by kernel_rfl) (fun x r h=>(f11.run x).trans h)
/-! f108: (*adit/crawl.maker).up -/
def f108 (a0:(Int×Int×Int×Int×List Int×List E11×List (Int×Int×Int×Int)×Int×Int×Int×Int)×Bool×Bool):Option (Int×Int×Bool×Unit) :=
 Option.bind (f13 a0.1.2.2.2.2.1 3) fun y0 =>
 some ((Int.tmod y0.1 24,IntKind.wrap .i64 (Int.tdiv y0.1 24),decide (y0.1 ≥ 0),()))
def f108.ins:Shape:=⟨[(0,.c (.bptr (.prod (.prod (.int .i64) (.prod (.int .i64) (.prod (.int .i64) (.prod (.int .i64) (.prod (.row (.int .u8)) (.prod (.row tE) (.prod (.row tI) tI))))))) (.prod .bool .bool))))],[]⟩
def f108.outs:List Shape:=[⟨[(0,n6),(1,n6),(2,.c (.bool))],[]⟩]
def f108.S:FnSpec:=⟨f108.ins,f108.outs,[],fun x=>f108 x.1⟩
def f108.E (fuel:Nat):Env:=⟨tis,[(13,f13.S)],[],[],[],[],0,[],fuel⟩
theorem f108.run:RunOk f108.E Go.Proofs.Tryz.f108 f108.S:=by intro x;kernel_rfl
theorem f108.sound:Sound Go.Proofs.Tryz.prog 108 f108.S:=sound_of_run (fun _=>f108.E 100000000000000000000) (by kernel_rfl) (by kernel_rfl) (by kernel_rfl) orders (fun _=>⟨tis_ok,EqsOk.nil _,(fc f13.sound FnsOk.nil)⟩) (fun _=>rfl) (by kernel_rfl) (by kernel_rfl) (fun x r h=>(f108.run x).trans h)
/-! f162: adit/ents.rows -/
def f162 (a0:List E11):Option (List E11×Unit) :=
 bif decide ((0:Int) ≤ 0∧0 ≤ minI (↑(List.length a0):Int) 32∧minI (↑(List.length a0):Int) 32 ≤ (↑(List.length a0):Int)) then
 some ((List.drop 0 (List.take (Int.toNat (minI (↑(List.length a0):Int) 32)) a0),()))
 else
 none
def f162.ins:Shape:=⟨[(0,rE)],[]⟩
def f162.outs:List Shape:=[⟨[(0,rE)],[]⟩]
def f162.S:FnSpec:=⟨f162.ins,f162.outs,[],fun x=>f162 x.1⟩
def f162.E (fuel:Nat):Env:=⟨tis,[],[],[],[],[],0,[],fuel⟩
theorem f162.run:RunOk f162.E Go.Proofs.Tryz.f162 f162.S:=by intro x;kernel_rfl
theorem f162.sound:Sound Go.Proofs.Tryz.prog 162 f162.S:=sound_of_run (fun _=>f162.E 100000000000000000000) (by kernel_rfl) (by kernel_rfl) (by kernel_rfl) orders (fun _=>⟨tis_ok,EqsOk.nil _,FnsOk.nil⟩) (fun _=>rfl) (by kernel_rfl) (by kernel_rfl) (fun x r h=>(f162.run x).trans h)
/-! f155: adit/ents.Hero$1 -/
def f155 (a0:Int) (a1:Int) (a2:Int) (a3:Int) (a4:Int) (a5:Int) (a6:Int) (a7:Int) (a8:Int) (a9:Int) (a10:Int) (a11:Int) (a12:Int):Option (Bool×Unit) :=
 bif a1 == 1 then
 some ((a3 == a12,()))
 else
 some ((Bool.false,()))
def f155.ins:Shape:=⟨[(0,n6),(1,eS),(2,.c (.bptr (.int .i64)))],[]⟩
def f155.outs:List Shape:=[⟨[(0,.c (.bool))],[]⟩]
def f155.S:FnSpec:=⟨f155.ins,f155.outs,[],fun x=>f155 x.1 x.2.1 x.2.2.1 x.2.2.2.1 x.2.2.2.2.1 x.2.2.2.2.2.1 x.2.2.2.2.2.2.1 x.2.2.2.2.2.2.2.1 x.2.2.2.2.2.2.2.2.1 x.2.2.2.2.2.2.2.2.2.1 x.2.2.2.2.2.2.2.2.2.2.1 x.2.2.2.2.2.2.2.2.2.2.2.1 x.2.2.2.2.2.2.2.2.2.2.2.2.1⟩
def f155.E (fuel:Nat):Env:=⟨tis,[],[],[],[],[],0,[],fuel⟩
theorem f155.run:RunOk f155.E Go.Proofs.Tryz.f155 f155.S:=by intro x;kernel_rfl
theorem f155.sound:Sound Go.Proofs.Tryz.prog 155 f155.S:=sound_of_run (fun _=>f155.E 100000000000000000000) (by kernel_rfl) (by kernel_rfl) (by kernel_rfl) orders (fun _=>⟨tis_ok,EqsOk.nil _,FnsOk.nil⟩) (fun _=>rfl) (by kernel_rfl) (by kernel_rfl) (fun x r h=>(f155.run x).trans h)
/-! f153: adit/ents.find -/
def f153.L1 (x:List E11×Int×Int×Int×Unit):Option (Int×Int×Unit) :=
 it (X:=List E11×Int×Int×Int×Unit) (fun rec x =>
 bif decide (x.2.2.1 < x.2.1) then
 bif inRange x.2.2.1 (List.length x.1) then
 Option.bind (f155 x.2.2.1 (List.getD x.1 (Int.toNat x.2.2.1) (0,0,0,0,0,0,0,0,0,0,0)).1 (List.getD x.1 (Int.toNat x.2.2.1) (0,0,0,0,0,0,0,0,0,0,0)).2.1 (List.getD x.1 (Int.toNat x.2.2.1) (0,0,0,0,0,0,0,0,0,0,0)).2.2.1 (List.getD x.1 (Int.toNat x.2.2.1) (0,0,0,0,0,0,0,0,0,0,0)).2.2.2.1 (List.getD x.1 (Int.toNat x.2.2.1) (0,0,0,0,0,0,0,0,0,0,0)).2.2.2.2.1 (List.getD x.1 (Int.toNat x.2.2.1) (0,0,0,0,0,0,0,0,0,0,0)).2.2.2.2.2.1 (List.getD x.1 (Int.toNat x.2.2.1) (0,0,0,0,0,0,0,0,0,0,0)).2.2.2.2.2.2.1 (List.getD x.1 (Int.toNat x.2.2.1) (0,0,0,0,0,0,0,0,0,0,0)).2.2.2.2.2.2.2.1 (List.getD x.1 (Int.toNat x.2.2.1) (0,0,0,0,0,0,0,0,0,0,0)).2.2.2.2.2.2.2.2.1 (List.getD x.1 (Int.toNat x.2.2.1) (0,0,0,0,0,0,0,0,0,0,0)).2.2.2.2.2.2.2.2.2.1 (List.getD x.1 (Int.toNat x.2.2.1) (0,0,0,0,0,0,0,0,0,0,0)).2.2.2.2.2.2.2.2.2.2 x.2.2.2.1) fun y0 =>
 bif y0.1 then
 some ((x.2.2.1,x.2.2.2.1,()))
 else
 rec (x.1,x.2.1,IntKind.wrap .i64 (x.2.2.1 + 1),x.2.2.2.1,())
 else
 none
 else
 some ((-1,x.2.2.2.1,()))
 ) (100000000000000000000) (x)
def f153 (a0:List E11) (a1:Int):Option (Int×Int×Unit) :=
 Option.bind (f162 a0) fun y0 =>
 f153.L1 ((y0.1,(↑(List.length y0.1):Int),0,a1,()))
def f153.ins:Shape:=⟨[(0,rE),(1,.c (.fn 155 [0]))],[(0,.box [.int .i64])]⟩
def f153.outs:List Shape:=[⟨[(0,n6)],[(0,.box [.int .i64])]⟩]
def f153.S:FnSpec:=⟨f153.ins,f153.outs,[0],fun x=>f153 x.1 x.2.1⟩
def f153.E (fuel:Nat):Env:=⟨tis,[(162,f162.S),(155,f155.S)],[],[],[(3,⟨[(1,.c (.fn 155 [0])),(8,rE),(9,n6),(10,n6)],[(0,.box [.int .i64])]⟩)],[],1,[0],fuel⟩
theorem f153.run:RunOk f153.E Go.Proofs.Tryz.f153 f153.S:=by intro x;kernel_rfl
theorem f153.sound:Sound Go.Proofs.Tryz.prog 153 f153.S:=sound_of_run (fun _=>f153.E 100000000000000000000) (by kernel_rfl) (by kernel_rfl) (by kernel_rfl) orders (fun _=>⟨tis_ok,EqsOk.nil _,(fc f162.sound (fc f155.sound FnsOk.nil))⟩) (fun _=>rfl) (by kernel_rfl) (by kernel_rfl) (fun x r h=>(f153.run x).trans h)
/-! f97: adit/ents.Hero -/
def f97 (a0:List E11) (a1:Int):Option (Int×Unit) :=
 Option.bind (f153 a0 a1) fun y0 =>
 some ((y0.1,()))
def f97.ins:Shape:=⟨[(0,rE),(1,n6)],[]⟩
def f97.outs:List Shape:=[⟨[(0,n6)],[]⟩]
def f97.S:FnSpec:=⟨f97.ins,f97.outs,[],fun x=>f97 x.1 x.2.1⟩
def f97.E (fuel:Nat):Env:=⟨tis,[(153,f153.S)],[],[],[],[],0,[],fuel⟩
theorem f97.run:RunOk f97.E Go.Proofs.Tryz.f97 f97.S:=by intro x;kernel_rfl
theorem f97.sound:Sound Go.Proofs.Tryz.prog 97 f97.S:=sound_of_run (fun _=>f97.E 100000000000000000000) (by kernel_rfl) (by kernel_rfl) (by kernel_rfl) orders (fun _=>⟨tis_ok,EqsOk.nil _,(fc f153.sound FnsOk.nil)⟩) (fun _=>rfl) (by kernel_rfl) (by kernel_rfl) (fun x r h=>(f97.run x).trans h)
/-! f43: adit/nav.number -/
def f43 (a0:Int) (a1:Int):Option (Int×Unit) :=
 bif decide (a0 < 0) then
 some ((-1,()))
 else
 bif decide (a0 ≥ 24) then
 some ((-1,()))
 else
 bif decide (a1 < 0) then
 some ((-1,()))
 else
 bif decide (a1 ≥ 16) then
 some ((-1,()))
 else
 some ((IntKind.wrap .i64 (IntKind.wrap .i64 (a1 * 24) + a0),()))
def f43.ins:Shape:=⟨[(0,n6),(1,n6)],[]⟩
def f43.outs:List Shape:=[⟨[(0,n6)],[]⟩]
def f43.S:FnSpec:=⟨f43.ins,f43.outs,[],fun x=>f43 x.1 x.2.1⟩
def f43.E (fuel:Nat):Env:=⟨tis,[],[],[],[],[],0,[],fuel⟩
theorem f43.run:RunOk f43.E Go.Proofs.Tryz.f43 f43.S:=by intro x;kernel_rfl
theorem f43.sound:Sound Go.Proofs.Tryz.prog 43 f43.S:=sound_of_run (fun _=>f43.E 100000000000000000000) (by kernel_rfl) (by kernel_rfl) (by kernel_rfl) orders (fun _=>⟨tis_ok,EqsOk.nil _,FnsOk.nil⟩) (fun _=>rfl) (by kernel_rfl) (by kernel_rfl) (fun x r h=>(f43.run x).trans h)
/-! f154: adit/ents.At$1 -/
def f154 (a0:Int) (a1:Int) (a2:Int) (a3:Int) (a4:Int) (a5:Int) (a6:Int) (a7:Int) (a8:Int) (a9:Int) (a10:Int) (a11:Int) (a12:Int) (a13:Int):Option (Bool×Unit) :=
 bif a1 != 0 then
 some ((a4 == a12 && (a5 == a13 && Bool.true),()))
 else
 some ((Bool.false,()))
def f154.ins:Shape:=⟨[(0,n6),(1,eS),(2,.c (.bptr (.int .i64))),(3,.c (.bptr (.int .i64)))],[]⟩
def f154.outs:List Shape:=[⟨[(0,.c (.bool))],[]⟩]
def f154.S:FnSpec:=⟨f154.ins,f154.outs,[],fun x=>f154 x.1 x.2.1 x.2.2.1 x.2.2.2.1 x.2.2.2.2.1 x.2.2.2.2.2.1 x.2.2.2.2.2.2.1 x.2.2.2.2.2.2.2.1 x.2.2.2.2.2.2.2.2.1 x.2.2.2.2.2.2.2.2.2.1 x.2.2.2.2.2.2.2.2.2.2.1 x.2.2.2.2.2.2.2.2.2.2.2.1 x.2.2.2.2.2.2.2.2.2.2.2.2.1 x.2.2.2.2.2.2.2.2.2.2.2.2.2.1⟩
def f154.E (fuel:Nat):Env:=⟨tis,[],[(191,[.int .i64,.int .i64])],[],[],[],0,[],fuel⟩
theorem f154.run:RunOk f154.E Go.Proofs.Tryz.f154 f154.S:=by intro x;kernel_rfl
theorem f154.sound:Sound Go.Proofs.Tryz.prog 154 f154.S:=sound_of_run (fun _=>f154.E 100000000000000000000) (by kernel_rfl) (by kernel_rfl) (by kernel_rfl) orders (fun _=>⟨tis_ok,(EqsOk.cons eq191 (EqsOk.nil _)),FnsOk.nil⟩) (fun _=>rfl) (by kernel_rfl) (by kernel_rfl) (fun x r h=>(f154.run x).trans h)
/-! f153_1: adit/ents.find -/
def f153_1.L1 (x:List E11×Int×Int×Int×Int×Unit):Option (Int×Int×Int×Unit) :=
 it (X:=List E11×Int×Int×Int×Int×Unit) (fun rec x =>
 bif decide (x.2.2.1 < x.2.1) then
 bif inRange x.2.2.1 (List.length x.1) then
 Option.bind (f154 x.2.2.1 (List.getD x.1 (Int.toNat x.2.2.1) (0,0,0,0,0,0,0,0,0,0,0)).1 (List.getD x.1 (Int.toNat x.2.2.1) (0,0,0,0,0,0,0,0,0,0,0)).2.1 (List.getD x.1 (Int.toNat x.2.2.1) (0,0,0,0,0,0,0,0,0,0,0)).2.2.1 (List.getD x.1 (Int.toNat x.2.2.1) (0,0,0,0,0,0,0,0,0,0,0)).2.2.2.1 (List.getD x.1 (Int.toNat x.2.2.1) (0,0,0,0,0,0,0,0,0,0,0)).2.2.2.2.1 (List.getD x.1 (Int.toNat x.2.2.1) (0,0,0,0,0,0,0,0,0,0,0)).2.2.2.2.2.1 (List.getD x.1 (Int.toNat x.2.2.1) (0,0,0,0,0,0,0,0,0,0,0)).2.2.2.2.2.2.1 (List.getD x.1 (Int.toNat x.2.2.1) (0,0,0,0,0,0,0,0,0,0,0)).2.2.2.2.2.2.2.1 (List.getD x.1 (Int.toNat x.2.2.1) (0,0,0,0,0,0,0,0,0,0,0)).2.2.2.2.2.2.2.2.1 (List.getD x.1 (Int.toNat x.2.2.1) (0,0,0,0,0,0,0,0,0,0,0)).2.2.2.2.2.2.2.2.2.1 (List.getD x.1 (Int.toNat x.2.2.1) (0,0,0,0,0,0,0,0,0,0,0)).2.2.2.2.2.2.2.2.2.2 x.2.2.2.1 x.2.2.2.2.1) fun y0 =>
 bif y0.1 then
 some ((x.2.2.1,x.2.2.2.1,x.2.2.2.2.1,()))
 else
 rec (x.1,x.2.1,IntKind.wrap .i64 (x.2.2.1 + 1),x.2.2.2.1,x.2.2.2.2.1,())
 else
 none
 else
 some ((-1,x.2.2.2.1,x.2.2.2.2.1,()))
 ) (100000000000000000000) (x)
def f153_1 (a0:List E11) (a1:Int) (a2:Int):Option (Int×Int×Int×Unit) :=
 Option.bind (f162 a0) fun y0 =>
 f153_1.L1 ((y0.1,(↑(List.length y0.1):Int),0,a1,a2,()))
def f153_1.ins:Shape:=⟨[(0,rE),(1,.c (.fn 154 [0,1]))],[(0,.box [.int .i64]),(1,.box [.int .i64])]⟩
def f153_1.outs:List Shape:=[⟨[(0,n6)],[(0,.box [.int .i64]),(1,.box [.int .i64])]⟩]
def f153_1.S:FnSpec:=⟨f153_1.ins,f153_1.outs,[0,1],fun x=>f153_1 x.1 x.2.1 x.2.2.1⟩
def f153_1.E (fuel:Nat):Env:=⟨tis,[(162,f162.S),(154,f154.S)],[],[],[(3,⟨[(1,.c (.fn 154 [0,1])),(8,rE),(9,n6),(10,n6)],[(0,.box [.int .i64]),(1,.box [.int .i64])]⟩)],[],2,[0,1],fuel⟩
theorem f153_1.run:RunOk f153_1.E Go.Proofs.Tryz.f153 f153_1.S:=by intro x;kernel_rfl
theorem f153_1.sound:Sound Go.Proofs.Tryz.prog 153 f153_1.S:=sound_of_run (fun _=>f153_1.E 100000000000000000000) (by kernel_rfl) (by kernel_rfl) (by kernel_rfl) orders (fun _=>⟨tis_ok,EqsOk.nil _,(fc f162.sound (fc f154.sound FnsOk.nil))⟩) (fun _=>rfl) (by kernel_rfl) (by kernel_rfl) (fun x r h=>(f153_1.run x).trans h)
/-! f96: adit/ents.At -/
def f96 (a0:List E11) (a1:Int) (a2:Int):Option (Int×Unit) :=
 Option.bind (f153_1 a0 a1 a2) fun y0 =>
 some ((y0.1,()))
def f96.ins:Shape:=⟨[(0,rE),(1,n6),(2,n6)],[]⟩
def f96.outs:List Shape:=[⟨[(0,n6)],[]⟩]
def f96.S:FnSpec:=⟨f96.ins,f96.outs,[],fun x=>f96 x.1 x.2.1 x.2.2.1⟩
def f96.E (fuel:Nat):Env:=⟨tis,[(153,f153_1.S)],[],[],[],[],0,[],fuel⟩
theorem f96.run:RunOk f96.E Go.Proofs.Tryz.f96 f96.S:=by intro x;kernel_rfl
theorem f96.sound:Sound Go.Proofs.Tryz.prog 96 f96.S:=sound_of_run (fun _=>f96.E 100000000000000000000) (by kernel_rfl) (by kernel_rfl) (by kernel_rfl) orders (fun _=>⟨tis_ok,EqsOk.nil _,(fc f153_1.sound FnsOk.nil)⟩) (fun _=>rfl) (by kernel_rfl) (by kernel_rfl) (fun x r h=>(f96.run x).trans h)
/-! f109: adit/nav.Spot -/
def f109.L1 (x:List E11×Int×Int×Int×List Int×Unit):Option (Int×Unit) :=
 it (X:=List E11×Int×Int×Int×List Int×Unit) (fun rec x =>
 bif decide (x.2.2.2.1 < x.2.2.1) then
 bif inRange x.2.2.2.1 (List.length x.2.2.2.2.1) then
 bif decide (List.getD x.2.2.2.2.1 (Int.toNat x.2.2.2.1) 0 ≥ 0) then
 bif decide (x.2.1 < 0) then
 Option.bind (f96 x.1 (Int.tmod x.2.2.2.1 24) (IntKind.wrap .i64 (Int.tdiv x.2.2.2.1 24))) fun y0 =>
 bif decide (y0.1 < 0) then
 rec (x.1,x.2.2.2.1,x.2.2.1,IntKind.wrap .i64 (x.2.2.2.1 + 1),x.2.2.2.2.1,())
 else
 rec (x.1,x.2.1,x.2.2.1,IntKind.wrap .i64 (x.2.2.2.1 + 1),x.2.2.2.2.1,())
 else
 bif inRange x.2.1 (List.length x.2.2.2.2.1) then
 bif decide (List.getD x.2.2.2.2.1 (Int.toNat x.2.2.2.1) 0 < List.getD x.2.2.2.2.1 (Int.toNat x.2.1) 0) then
 Option.bind (f96 x.1 (Int.tmod x.2.2.2.1 24) (IntKind.wrap .i64 (Int.tdiv x.2.2.2.1 24))) fun y1 =>
 bif decide (y1.1 < 0) then
 rec (x.1,x.2.2.2.1,x.2.2.1,IntKind.wrap .i64 (x.2.2.2.1 + 1),x.2.2.2.2.1,())
 else
 rec (x.1,x.2.1,x.2.2.1,IntKind.wrap .i64 (x.2.2.2.1 + 1),x.2.2.2.2.1,())
 else
 rec (x.1,x.2.1,x.2.2.1,IntKind.wrap .i64 (x.2.2.2.1 + 1),x.2.2.2.2.1,())
 else
 none
 else
 rec (x.1,x.2.1,x.2.2.1,IntKind.wrap .i64 (x.2.2.2.1 + 1),x.2.2.2.2.1,())
 else
 none
 else
 some ((x.2.1,()))
 ) (100000000000000000000) (x)
def f109 (a0:List Int) (a1:List E11) (a2:Int) (a3:Int):Option (Int×Unit) :=
 Option.bind (f43 a2 a3) fun y0 =>
 Option.bind (f14 a0 [] [y0.1]) fun y1 =>
 f109.L1 ((a1,-1,(↑(List.length y1.1):Int),0,y1.1,()))
def f109.ins:Shape:=⟨[(0,r8),(1,rE),(2,n6),(3,n6)],[]⟩
def f109.outs:List Shape:=[⟨[(0,n6)],[]⟩]
def f109.S:FnSpec:=⟨f109.ins,f109.outs,[],fun x=>f109 x.1 x.2.1 x.2.2.1 x.2.2.2.1⟩
def f109.E (fuel:Nat):Env:=⟨tis,[(14,f14.S),(43,f43.S),(96,f96.S)],[],[],[(5,⟨[(1,rE),(9,n6),(10,.c (.own 0)),(19,.c (.own 0)),(20,n6),(21,n6)],[(0,.arr (.int .i64))]⟩)],[],0,[],fuel⟩
theorem f109.run:RunOk f109.E Go.Proofs.Tryz.f109 f109.S:=by intro x;kernel_rfl
theorem f109.sound:Sound Go.Proofs.Tryz.prog 109 f109.S:=sound_of_run (fun _=>f109.E 100000000000000000000) (by kernel_rfl) (by kernel_rfl) (by kernel_rfl) orders (fun _=>⟨tis_ok,EqsOk.nil _,(fc f14.sound (fc f43.sound (fc f96.sound FnsOk.nil)))⟩) (fun _=>rfl) (by kernel_rfl) (by kernel_rfl) (fun x r h=>(f109.run x).trans h)
/-! f100: (*adit/crawl.maker).settle -/
def f100.L1 (x:Int×Int×Int×Int×Int×Int×Int×Int×Int×Int×Int×Bool×Bool×List Int×List E11×List (Int×Int×Int×Int)×List E11×Unit):Option (Int×Int×Int×Int×Int×Int×Int×Int×Bool×Bool×List Int×List E11×List (Int×Int×Int×Int)×Unit) :=
 it (X:=Int×Int×Int×Int×Int×Int×Int×Int×Int×Int×Int×Bool×Bool×List Int×List E11×List (Int×Int×Int×Int)×List E11×Unit) (fun rec x=>match x with
 | (v0,v1,v2,v3,v4,v5,v6,v7,v8,v9,v10,v11,v12,v13,v14,v15,v16,_) =>
 bif decide (v2 < 4) then
 Option.bind (f97 v14 v2) fun y0 =>
 bif decide (y0.1 < 0) then
 rec (v0,v1,IntKind.wrap .i64 (v2 + 1),v3,v4,v5,v6,v7,v8,v9,v10,v11,v12,v13,v14,v15,v16,())
 else
 bif inRange y0.1 (List.length v14) then
 Option.bind (α:=Int×Int×Int×Nat×Int×Int×Int×Int×Int×Int×Int×Int×Int×Bool×Bool×List Int×List E11×List (Int×Int×Int×Int)×List E11×Unit ⊕ Int×Int×Int×Int×Int×Int×Int×Int×Bool×Bool×List Int×List E11×List (Int×Int×Int×Int)×Unit) (
 Option.bind (f109 v13 v16 v0 v1) fun y1 =>
 bif decide (y1.1 ≥ 0) then
 let s0:List E11:=List.set v14 (Int.toNat y0.1) ((List.getD v14 (Int.toNat y0.1) (0,0,0,0,0,0,0,0,0,0,0)).1,(List.getD v14 (Int.toNat y0.1) (0,0,0,0,0,0,0,0,0,0,0)).2.1,(List.getD v14 (Int.toNat y0.1) (0,0,0,0,0,0,0,0,0,0,0)).2.2.1,Int.tmod y1.1 24,(List.getD v14 (Int.toNat y0.1) (0,0,0,0,0,0,0,0,0,0,0)).2.2.2.2.1,(List.getD v14 (Int.toNat y0.1) (0,0,0,0,0,0,0,0,0,0,0)).2.2.2.2.2.1,(List.getD v14 (Int.toNat y0.1) (0,0,0,0,0,0,0,0,0,0,0)).2.2.2.2.2.2.1,(List.getD v14 (Int.toNat y0.1) (0,0,0,0,0,0,0,0,0,0,0)).2.2.2.2.2.2.2.1,(List.getD v14 (Int.toNat y0.1) (0,0,0,0,0,0,0,0,0,0,0)).2.2.2.2.2.2.2.2.1,(List.getD v14 (Int.toNat y0.1) (0,0,0,0,0,0,0,0,0,0,0)).2.2.2.2.2.2.2.2.2.1,(List.getD v14 (Int.toNat y0.1) (0,0,0,0,0,0,0,0,0,0,0)).2.2.2.2.2.2.2.2.2.2)
 let s1:List E11:=List.set s0 (Int.toNat y0.1) ((List.getD s0 (Int.toNat y0.1) (0,0,0,0,0,0,0,0,0,0,0)).1,(List.getD s0 (Int.toNat y0.1) (0,0,0,0,0,0,0,0,0,0,0)).2.1,(List.getD s0 (Int.toNat y0.1) (0,0,0,0,0,0,0,0,0,0,0)).2.2.1,(List.getD s0 (Int.toNat y0.1) (0,0,0,0,0,0,0,0,0,0,0)).2.2.2.1,IntKind.wrap .i64 (Int.tdiv y1.1 24),(List.getD s0 (Int.toNat y0.1) (0,0,0,0,0,0,0,0,0,0,0)).2.2.2.2.2.1,(List.getD s0 (Int.toNat y0.1) (0,0,0,0,0,0,0,0,0,0,0)).2.2.2.2.2.2.1,(List.getD s0 (Int.toNat y0.1) (0,0,0,0,0,0,0,0,0,0,0)).2.2.2.2.2.2.2.1,(List.getD s0 (Int.toNat y0.1) (0,0,0,0,0,0,0,0,0,0,0)).2.2.2.2.2.2.2.2.1,(List.getD s0 (Int.toNat y0.1) (0,0,0,0,0,0,0,0,0,0,0)).2.2.2.2.2.2.2.2.2.1,(List.getD s0 (Int.toNat y0.1) (0,0,0,0,0,0,0,0,0,0,0)).2.2.2.2.2.2.2.2.2.2)
 some (Sum.inl (v0,v1,y0.1,Int.toNat y0.1,v2,v3,v4,v5,v6,v7,v8,v9,v10,v11,v12,v13,s1,v15,v16,()))
 else
 some (Sum.inl (v0,v1,y0.1,Int.toNat y0.1,v2,v3,v4,v5,v6,v7,v8,v9,v10,v11,v12,v13,v14,v15,v16,()))
 ) fun y2 =>
 Sum.elim (fun y3=>match y3 with
 | (u3_0,u3_1,u3_2,u3_3,u3_4,u3_5,u3_6,u3_7,u3_8,u3_9,u3_10,u3_11,u3_12,u3_13,u3_14,u3_15,u3_16,u3_17,u3_18,_) =>
 bif inRange u3_2 (List.length u3_18) then
 let s0:List E11:=List.set u3_18 (Int.toNat u3_2) ((List.getD u3_16 u3_3 (0,0,0,0,0,0,0,0,0,0,0)).1,(List.getD u3_16 u3_3 (0,0,0,0,0,0,0,0,0,0,0)).2.1,(List.getD u3_16 u3_3 (0,0,0,0,0,0,0,0,0,0,0)).2.2.1,(List.getD u3_16 u3_3 (0,0,0,0,0,0,0,0,0,0,0)).2.2.2.1,(List.getD u3_16 u3_3 (0,0,0,0,0,0,0,0,0,0,0)).2.2.2.2.1,(List.getD u3_16 u3_3 (0,0,0,0,0,0,0,0,0,0,0)).2.2.2.2.2.1,(List.getD u3_16 u3_3 (0,0,0,0,0,0,0,0,0,0,0)).2.2.2.2.2.2.1,(List.getD u3_16 u3_3 (0,0,0,0,0,0,0,0,0,0,0)).2.2.2.2.2.2.2.1,(List.getD u3_16 u3_3 (0,0,0,0,0,0,0,0,0,0,0)).2.2.2.2.2.2.2.2.1,(List.getD u3_16 u3_3 (0,0,0,0,0,0,0,0,0,0,0)).2.2.2.2.2.2.2.2.2.1,(List.getD u3_16 u3_3 (0,0,0,0,0,0,0,0,0,0,0)).2.2.2.2.2.2.2.2.2.2)
 rec (u3_0,u3_1,IntKind.wrap .i64 (u3_4 + 1),u3_5,u3_6,u3_7,u3_8,u3_9,u3_10,u3_11,u3_12,u3_13,u3_14,u3_15,u3_16,u3_17,s0,())
 else
 none
 ) (fun z4 =>
 some (z4)
 ) (y2)
 else
 none
 else
 some ((v3,v4,v5,v6,v7,v8,v9,v10,v11,v12,v13,v14,v15,()))
 ) (100000000000000000000) (x)
def f100 (a0:Int) (a1:Int) (a2:Int) (a3:Int) (a4:Int) (a5:Int) (a6:Int) (a7:Int) (a8:Bool) (a9:Bool) (a10:List Int) (a11:List E11) (a12:List (Int×Int×Int×Int)):Option (Int×Int×Int×Int×Int×Int×Int×Int×Bool×Bool×List Int×List E11×List (Int×Int×Int×Int)×Unit) :=
 Option.bind (f108 ((a0,a1,a2,a3,a10,a11,a12,a4,a5,a6,a7),a8,a9)) fun y0 =>
 f100.L1 ((y0.1,y0.2.1,0,a0,a1,a2,a3,a4,a5,a6,a7,a8,a9,a10,a11,a12,List.replicate 32 (0,0,0,0,0,0,0,0,0,0,0),()))
def f100.ins:Shape:=⟨[(0,.c (.ptr 0 0))],[(0,.box [.int .i64,.int .i64,.int .i64,.int .i64,.own 1,.own 2,.own 3,.int .i64,.int .i64,.int .i64,.int .i64,.bool,.bool]),(1,.arr (.int .u8)),(2,.arr tE),(3,.arr tI)]⟩
def f100.outs:List Shape:=[⟨[],[(0,.box [.int .i64,.int .i64,.int .i64,.int .i64,.own 1,.own 2,.own 3,.int .i64,.int .i64,.int .i64,.int .i64,.bool,.bool]),(1,.arr (.int .u8)),(2,.arr tE),(3,.arr tI)]⟩]
def f100.S:FnSpec:=⟨f100.ins,f100.outs,[0,1,2,3],fun x=>f100 x.1 x.2.1 x.2.2.1 x.2.2.2.1 x.2.2.2.2.1 x.2.2.2.2.2.1 x.2.2.2.2.2.2.1 x.2.2.2.2.2.2.2.1 x.2.2.2.2.2.2.2.2.1 x.2.2.2.2.2.2.2.2.2.1 x.2.2.2.2.2.2.2.2.2.2.1 x.2.2.2.2.2.2.2.2.2.2.2.1 x.2.2.2.2.2.2.2.2.2.2.2.2.1⟩
def f100.E (fuel:Nat):Env:=⟨tis,[(108,f108.S),(97,f97.S),(109,f109.S)],[],[(12,⟨[(0,.c (.ptr 0 0)),(2,n6),(3,n6),(5,.c (.own 4)),(7,n6),(8,.c (.eptr 2 0)),(17,n6)],[(0,.box [.int .i64,.int .i64,.int .i64,.int .i64,.own 1,.own 2,.own 3,.int .i64,.int .i64,.int .i64,.int .i64,.bool,.bool]),(1,.arr (.int .u8)),(2,.arr tE),(3,.arr tI),(4,.arr tE)]⟩)],[(4,⟨[(0,.c (.ptr 0 0)),(2,n6),(3,n6),(5,.c (.own 4)),(17,n6)],[(0,.box [.int .i64,.int .i64,.int .i64,.int .i64,.own 1,.own 2,.own 3,.int .i64,.int .i64,.int .i64,.int .i64,.bool,.bool]),(1,.arr (.int .u8)),(2,.arr tE),(3,.arr tI),(4,.arr tE)]⟩)],[],4,[0,1,2,3],fuel⟩
theorem f100.run:RunOk f100.E Go.Proofs.Tryz.f100 f100.S:=by intro x;kernel_rfl
theorem f100.sound:Sound Go.Proofs.Tryz.prog 100 f100.S:=sound_of_run (fun _=>f100.E 100000000000000000000) (by kernel_rfl) (by kernel_rfl) (by kernel_rfl) orders (fun _=>⟨tis_ok,EqsOk.nil _,(fc f108.sound (fc f97.sound (fc f109.sound FnsOk.nil)))⟩) (fun _=>rfl) (by kernel_rfl) (by kernel_rfl) (fun x r h=>(f100.run x).trans h)
/-! f175: adit/ents.Spawn$1 -/
def f175 (a0:Int) (a1:Int) (a2:Int) (a3:Int) (a4:Int) (a5:Int) (a6:Int) (a7:Int) (a8:Int) (a9:Int) (a10:Int) (a11:Int):Option (Bool×Unit) :=
 some ((a1 == 0,()))
def f175.ins:Shape:=⟨[(0,n6),(1,eS)],[]⟩
def f175.outs:List Shape:=[⟨[(0,.c (.bool))],[]⟩]
def f175.S:FnSpec:=⟨f175.ins,f175.outs,[],fun x=>f175 x.1 x.2.1 x.2.2.1 x.2.2.2.1 x.2.2.2.2.1 x.2.2.2.2.2.1 x.2.2.2.2.2.2.1 x.2.2.2.2.2.2.2.1 x.2.2.2.2.2.2.2.2.1 x.2.2.2.2.2.2.2.2.2.1 x.2.2.2.2.2.2.2.2.2.2.1 x.2.2.2.2.2.2.2.2.2.2.2.1⟩
def f175.E (fuel:Nat):Env:=⟨tis,[],[],[],[],[],0,[],fuel⟩
theorem f175.run:RunOk f175.E Go.Proofs.Tryz.f175 f175.S:=by intro x;kernel_rfl
theorem f175.sound:Sound Go.Proofs.Tryz.prog 175 f175.S:=sound_of_run (fun _=>f175.E 100000000000000000000) (by kernel_rfl) (by kernel_rfl) (by kernel_rfl) orders (fun _=>⟨tis_ok,EqsOk.nil _,FnsOk.nil⟩) (fun _=>rfl) (by kernel_rfl) (by kernel_rfl) (fun x r h=>(f175.run x).trans h)
/-! f153_2: adit/ents.find -/
def f153_2.L1 (x:List E11×Int×Int×Unit):Option (Int×Unit) :=
 it (X:=List E11×Int×Int×Unit) (fun rec x =>
 bif decide (x.2.2.1 < x.2.1) then
 bif inRange x.2.2.1 (List.length x.1) then
 Option.bind (f175 x.2.2.1 (List.getD x.1 (Int.toNat x.2.2.1) (0,0,0,0,0,0,0,0,0,0,0)).1 (List.getD x.1 (Int.toNat x.2.2.1) (0,0,0,0,0,0,0,0,0,0,0)).2.1 (List.getD x.1 (Int.toNat x.2.2.1) (0,0,0,0,0,0,0,0,0,0,0)).2.2.1 (List.getD x.1 (Int.toNat x.2.2.1) (0,0,0,0,0,0,0,0,0,0,0)).2.2.2.1 (List.getD x.1 (Int.toNat x.2.2.1) (0,0,0,0,0,0,0,0,0,0,0)).2.2.2.2.1 (List.getD x.1 (Int.toNat x.2.2.1) (0,0,0,0,0,0,0,0,0,0,0)).2.2.2.2.2.1 (List.getD x.1 (Int.toNat x.2.2.1) (0,0,0,0,0,0,0,0,0,0,0)).2.2.2.2.2.2.1 (List.getD x.1 (Int.toNat x.2.2.1) (0,0,0,0,0,0,0,0,0,0,0)).2.2.2.2.2.2.2.1 (List.getD x.1 (Int.toNat x.2.2.1) (0,0,0,0,0,0,0,0,0,0,0)).2.2.2.2.2.2.2.2.1 (List.getD x.1 (Int.toNat x.2.2.1) (0,0,0,0,0,0,0,0,0,0,0)).2.2.2.2.2.2.2.2.2.1 (List.getD x.1 (Int.toNat x.2.2.1) (0,0,0,0,0,0,0,0,0,0,0)).2.2.2.2.2.2.2.2.2.2) fun y0 =>
 bif y0.1 then
 some ((x.2.2.1,()))
 else
 rec (x.1,x.2.1,IntKind.wrap .i64 (x.2.2.1 + 1),())
 else
 none
 else
 some ((-1,()))
 ) (100000000000000000000) (x)
def f153_2 (a0:List E11):Option (Int×Unit) :=
 Option.bind (f162 a0) fun y0 =>
 f153_2.L1 ((y0.1,(↑(List.length y0.1):Int),0,()))
def f153_2.ins:Shape:=⟨[(0,rE),(1,.c (.fn 175 []))],[]⟩
def f153_2.outs:List Shape:=[⟨[(0,n6)],[]⟩]
def f153_2.S:FnSpec:=⟨f153_2.ins,f153_2.outs,[],fun x=>f153_2 x.1⟩
def f153_2.E (fuel:Nat):Env:=⟨tis,[(162,f162.S),(175,f175.S)],[],[],[(3,⟨[(1,.c (.fn 175 [])),(8,rE),(9,n6),(10,n6)],[]⟩)],[],0,[],fuel⟩
theorem f153_2.run:RunOk f153_2.E Go.Proofs.Tryz.f153 f153_2.S:=by intro x;kernel_rfl
theorem f153_2.sound:Sound Go.Proofs.Tryz.prog 153 f153_2.S:=sound_of_run (fun _=>f153_2.E 100000000000000000000) (by kernel_rfl) (by kernel_rfl) (by kernel_rfl) orders (fun _=>⟨tis_ok,EqsOk.nil _,(fc f162.sound (fc f175.sound FnsOk.nil))⟩) (fun _=>rfl) (by kernel_rfl) (by kernel_rfl) (fun x r h=>(f153_2.run x).trans h)
/-! f104: slices.Clone[[]adit/api.Ent,adit/api.Ent] -/
def f104 (a0:List E11):Option (List E11×Unit):=cloneF (.prod (.int .i64) (.prod (.int .i64) (.prod (.int .i64) (.prod (.int .i64) (.prod (.int .i64) (.prod (.int .i64) (.prod (.int .i64) (.prod (.int .i64) (.prod (.int .i64) (.prod (.int .i64) (.int .i64))))))))))) 88 a0
def f104.S:FnSpec:=⟨cloneIns (.prod (.int .i64) (.prod (.int .i64) (.prod (.int .i64) (.prod (.int .i64) (.prod (.int .i64) (.prod (.int .i64) (.prod (.int .i64) (.prod (.int .i64) (.prod (.int .i64) (.prod (.int .i64) (.int .i64))))))))))),cloneOuts (.prod (.int .i64) (.prod (.int .i64) (.prod (.int .i64) (.prod (.int .i64) (.prod (.int .i64) (.prod (.int .i64) (.prod (.int .i64) (.prod (.int .i64) (.prod (.int .i64) (.prod (.int .i64) (.int .i64))))))))))),[],fun x=>f104 x.1⟩
def f104.E:Env:=⟨tis,[],[],[],[],[],0,[],1⟩
theorem f104.sound:Sound Go.Proofs.Tryz.prog 104 f104.S:=clone_sound (fn:=Go.Proofs.Tryz.f104) (t:=24) (q:=45) (u:=4) (bytes:=88) (i:=ty24) f104.E (by kernel_rfl) (by kernel_rfl) (by kernel_rfl) orders (by kernel_rfl) ⟨tis_ok,EqsOk.nil _,FnsOk.nil⟩ rfl (by kernel_rfl) (by kernel_rfl) (by intro l A K;kernel_rfl) (by kernel_rfl) (by intro l;kernel_rfl)
/-! f156: adit/ents.Spawn -/
def f156 (a0:List E11) (a1:Int) (a2:Int) (a3:Int) (a4:Int) (a5:Int) (a6:Int) (a7:Int) (a8:Int) (a9:Int) (a10:Int) (a11:Int):Option (Int×Int×List E11×Unit) :=
 bif decide (a1 < 1) then
 some ((0,3,[],()))
 else
 bif decide (a1 > 4) then
 some ((0,3,[],()))
 else
 Option.bind (f153_2 a0) fun y0 =>
 bif decide (y0.1 < 0) then
 some ((0,5,[],()))
 else
 Option.bind (f104 a0) fun y1 =>
 bif inRange y0.1 (List.length a0) then
 bif inRange y0.1 (List.length y1.1) then
 let s0:List E11:=List.set y1.1 (Int.toNat y0.1) (a1,Int.tmod (IntKind.wrap .i64 (Int.tmod (IntKind.wrap .i64 ((List.getD a0 (Int.toNat y0.1) (0,0,0,0,0,0,0,0,0,0,0)).2.1 + 1)) 256 + 256)) 256,a3,a4,a5,a6,a7,a8,a9,a10,a11)
 some ((y0.1,0,s0,()))
 else
 none
 else
 none
def f156.ins:Shape:=⟨[(0,rE),(1,eS)],[]⟩
def f156.outs:List Shape:=[⟨[(0,.c (.own 0)),(1,n6),(2,n6)],[(0,.arr tE)]⟩]
def f156.S:FnSpec:=⟨f156.ins,f156.outs,[],fun x=>f156 x.1 x.2.1 x.2.2.1 x.2.2.2.1 x.2.2.2.2.1 x.2.2.2.2.2.1 x.2.2.2.2.2.2.1 x.2.2.2.2.2.2.2.1 x.2.2.2.2.2.2.2.2.1 x.2.2.2.2.2.2.2.2.2.1 x.2.2.2.2.2.2.2.2.2.2.1 x.2.2.2.2.2.2.2.2.2.2.2.1⟩
def f156.E (fuel:Nat):Env:=⟨tis,[(153,f153_2.S),(104,f104.S)],[],[],[],[],0,[],fuel⟩
theorem f156.run:RunOk f156.E Go.Proofs.Tryz.f156 f156.S:=by intro x;kernel_rfl
theorem f156.sound:Sound Go.Proofs.Tryz.prog 156 f156.S:=sound_of_run (fun _=>f156.E 100000000000000000000) (by kernel_rfl) (by kernel_rfl) (by kernel_rfl) orders (fun _=>⟨tis_ok,EqsOk.nil _,(fc f153_2.sound (fc f104.sound FnsOk.nil))⟩) (fun _=>rfl) (by kernel_rfl) (by kernel_rfl) (fun x r h=>(f156.run x).trans h)
/-! f101: (*adit/crawl.maker).spawn -/
def f101 (a0:Int) (a1:Int) (a2:Int) (a3:Int) (a4:Int) (a5:Int) (a6:Int) (a7:Int) (a8:Int) (a9:Int) (a10:Int) (a11:Int) (a12:Int) (a13:Int) (a14:Int) (a15:Int) (a16:Int) (a17:Int) (a18:Int) (a19:Bool) (a20:Bool) (a21:List Int) (a22:List E11) (a23:List (Int×Int×Int×Int)):Option (Int×Int×Int×Int×Int×Int×Int×Int×Bool×Bool×List Int×List (Int×Int×Int×Int)×List E11×Unit) :=
 Option.bind (f156 a22 a0 a1 a2 a3 a4 a5 a6 a7 a8 a9 a10) fun y0 =>
 bif y0.2.1 == 0 then
 some ((a11,a12,a13,a14,a15,a16,a17,a18,a19,a20,a21,a23,y0.2.2.1,()))
 else
 some ((a11,a12,a13,a14,a15,a16,a17,a18,a19,a20,a21,a23,a22,()))
def f101.ins:Shape:=⟨[(0,.c (.ptr 0 0)),(1,eS)],[(0,.box [.int .i64,.int .i64,.int .i64,.int .i64,.own 1,.own 2,.own 3,.int .i64,.int .i64,.int .i64,.int .i64,.bool,.bool]),(1,.arr (.int .u8)),(2,.arr tE),(3,.arr tI)]⟩
def f101.outs:List Shape:=[⟨[],[(0,.box [.int .i64,.int .i64,.int .i64,.int .i64,.own 1,.own 4,.own 3,.int .i64,.int .i64,.int .i64,.int .i64,.bool,.bool]),(1,.arr (.int .u8)),(3,.arr tI),(4,.arr tE)]⟩]
def f101.S:FnSpec:=⟨f101.ins,f101.outs,[0,1,3],fun x=>f101 x.1 x.2.1 x.2.2.1 x.2.2.2.1 x.2.2.2.2.1 x.2.2.2.2.2.1 x.2.2.2.2.2.2.1 x.2.2.2.2.2.2.2.1 x.2.2.2.2.2.2.2.2.1 x.2.2.2.2.2.2.2.2.2.1 x.2.2.2.2.2.2.2.2.2.2.1 x.2.2.2.2.2.2.2.2.2.2.2.1 x.2.2.2.2.2.2.2.2.2.2.2.2.1 x.2.2.2.2.2.2.2.2.2.2.2.2.2.1 x.2.2.2.2.2.2.2.2.2.2.2.2.2.2.1 x.2.2.2.2.2.2.2.2.2.2.2.2.2.2.2.1 x.2.2.2.2.2.2.2.2.2.2.2.2.2.2.2.2.1 x.2.2.2.2.2.2.2.2.2.2.2.2.2.2.2.2.2.1 x.2.2.2.2.2.2.2.2.2.2.2.2.2.2.2.2.2.2.1 x.2.2.2.2.2.2.2.2.2.2.2.2.2.2.2.2.2.2.2.1 x.2.2.2.2.2.2.2.2.2.2.2.2.2.2.2.2.2.2.2.2.1 x.2.2.2.2.2.2.2.2.2.2.2.2.2.2.2.2.2.2.2.2.2.1 x.2.2.2.2.2.2.2.2.2.2.2.2.2.2.2.2.2.2.2.2.2.2.1 x.2.2.2.2.2.2.2.2.2.2.2.2.2.2.2.2.2.2.2.2.2.2.2.1⟩
def f101.E (fuel:Nat):Env:=⟨tis,[(156,f156.S)],[],[],[],[],4,[0,1,3],fuel⟩
theorem f101.run:RunOk f101.E Go.Proofs.Tryz.f101 f101.S:=by intro x;kernel_rfl
theorem f101.sound:Sound Go.Proofs.Tryz.prog 101 f101.S:=sound_of_run (fun _=>f101.E 100000000000000000000) (by kernel_rfl) (by kernel_rfl) (by kernel_rfl) orders (fun _=>⟨tis_ok,EqsOk.nil _,(fc f156.sound FnsOk.nil)⟩) (fun _=>rfl) (by kernel_rfl) (by kernel_rfl) (fun x r h=>(f101.run x).trans h)
/-! f105: slices.Clone[[]adit/api.Item,adit/api.Item] -/
def f105 (a0:List (Int×Int×Int×Int)):Option (List (Int×Int×Int×Int)×Unit):=cloneF (.prod (.int .i64) (.prod (.int .i64) (.prod (.int .i64) (.int .i64)))) 32 a0
def f105.S:FnSpec:=⟨cloneIns (.prod (.int .i64) (.prod (.int .i64) (.prod (.int .i64) (.int .i64)))),cloneOuts (.prod (.int .i64) (.prod (.int .i64) (.prod (.int .i64) (.int .i64)))),[],fun x=>f105 x.1⟩
def f105.E:Env:=⟨tis,[],[],[],[],[],0,[],1⟩
theorem f105.sound:Sound Go.Proofs.Tryz.prog 105 f105.S:=clone_sound (fn:=Go.Proofs.Tryz.f105) (t:=25) (q:=106) (u:=4) (bytes:=32) (i:=ty25) f105.E (by kernel_rfl) (by kernel_rfl) (by kernel_rfl) orders (by kernel_rfl) ⟨tis_ok,EqsOk.nil _,FnsOk.nil⟩ rfl (by kernel_rfl) (by kernel_rfl) (by intro l A K;kernel_rfl) (by kernel_rfl) (by intro l;kernel_rfl)
/-! f157: slices.Index[[]adit/api.Item,adit/api.Item] -/
def f157.L1 (x:List (Int×Int×Int×Int)×Int×Int×Int×Int×Int×Int×Unit):Option (Int×Unit) :=
 it (X:=List (Int×Int×Int×Int)×Int×Int×Int×Int×Int×Int×Unit) (fun rec x=>match x with
 | (v0,v1,v2,v3,v4,v5,v6,_) =>
 bif decide (v2 < v1) then
 bif inRange v2 (List.length v0) then
 bif v3 == (List.getD v0 (Int.toNat v2) (0,0,0,0)).1 && (v4 == (List.getD v0 (Int.toNat v2) (0,0,0,0)).2.1 && (v5 == (List.getD v0 (Int.toNat v2) (0,0,0,0)).2.2.1 && (v6 == (List.getD v0 (Int.toNat v2) (0,0,0,0)).2.2.2 && Bool.true))) then
 some ((v2,()))
 else
 rec (v0,v1,IntKind.wrap .i64 (v2 + 1),v3,v4,v5,v6,())
 else
 none
 else
 some ((-1,()))
 ) (100000000000000000000) (x)
def f157 (a0:List (Int×Int×Int×Int)) (a1:Int) (a2:Int) (a3:Int) (a4:Int):Option (Int×Unit) :=
 f157.L1 ((a0,(↑(List.length a0):Int),0,a1,a2,a3,a4,()))
def f157.ins:Shape:=⟨[(0,rI),(1,.agg [.int .i64,.int .i64,.int .i64,.int .i64])],[]⟩
def f157.outs:List Shape:=[⟨[(0,n6)],[]⟩]
def f157.S:FnSpec:=⟨f157.ins,f157.outs,[],fun x=>f157 x.1 x.2.1 x.2.2.1 x.2.2.2.1 x.2.2.2.2.1⟩
def f157.E (fuel:Nat):Env:=⟨tis,[],[(106,[.int .i64,.int .i64,.int .i64,.int .i64])],[],[(3,⟨[(0,rI),(3,.c (.ptr 0 0)),(7,n6),(8,n6)],[(0,.box [.int .i64,.int .i64,.int .i64,.int .i64])]⟩)],[],0,[],fuel⟩
theorem f157.run:RunOk f157.E Go.Proofs.Tryz.f157 f157.S:=by intro x;kernel_rfl
theorem f157.sound:Sound Go.Proofs.Tryz.prog 157 f157.S:=sound_of_run (fun _=>f157.E 100000000000000000000) (by kernel_rfl) (by kernel_rfl) (by kernel_rfl) orders (fun _=>⟨tis_ok,(EqsOk.cons eq106 (EqsOk.nil _)),FnsOk.nil⟩) (fun _=>rfl) (by kernel_rfl) (by kernel_rfl) (fun x r h=>(f157.run x).trans h)
/-! f102: adit/goods.Lay -/
def f102.L1 (x:List (Int×Int×Int×Int)×Int×Int×List (Int×Int×Int×Int)×Unit):Option (List (Int×Int×Int×Int)×Unit) :=
 it (X:=List (Int×Int×Int×Int)×Int×Int×List (Int×Int×Int×Int)×Unit) (fun rec x =>
 bif decide (x.2.2.1 < x.2.1) then
 bif inRange x.2.2.1 (List.length x.1) then
 bif decide ((0:Int) ≤ 0∧0 ≤ minI (↑(List.length x.2.2.2.1):Int) 40∧minI (↑(List.length x.2.2.2.1):Int) 40 ≤ (↑(List.length x.2.2.2.1):Int)) then
 Option.bind (f157 (List.drop 0 (List.take (Int.toNat (minI (↑(List.length x.2.2.2.1):Int) 40)) x.2.2.2.1)) 0 0 0 0) fun y0 =>
 bif decide (y0.1 ≥ 0) then
 bif inRange y0.1 (List.length x.2.2.2.1) then
 let s0:List (Int×Int×Int×Int):=List.set x.2.2.2.1 (Int.toNat y0.1) ((List.getD x.1 (Int.toNat x.2.2.1) (0,0,0,0)).1,(List.getD x.1 (Int.toNat x.2.2.1) (0,0,0,0)).2.1,(List.getD x.1 (Int.toNat x.2.2.1) (0,0,0,0)).2.2.1,(List.getD x.1 (Int.toNat x.2.2.1) (0,0,0,0)).2.2.2)
 rec (x.1,x.2.1,IntKind.wrap .i64 (x.2.2.1 + 1),s0,())
 else
 none
 else
 rec (x.1,x.2.1,IntKind.wrap .i64 (x.2.2.1 + 1),x.2.2.2.1,())
 else
 none
 else
 none
 else
 some ((x.2.2.2.1,()))
 ) (100000000000000000000) (x)
def f102 (a0:List (Int×Int×Int×Int)) (a1:List (Int×Int×Int×Int)):Option (List (Int×Int×Int×Int)×Unit) :=
 Option.bind (f105 a0) fun y0 =>
 f102.L1 ((a1,(↑(List.length a1):Int),0,y0.1,()))
def f102.ins:Shape:=⟨[(0,rI),(1,rI)],[]⟩
def f102.outs:List Shape:=[⟨[(0,.c (.own 0))],[(0,.arr tI)]⟩]
def f102.S:FnSpec:=⟨f102.ins,f102.outs,[],fun x=>f102 x.1 x.2.1⟩
def f102.E (fuel:Nat):Env:=⟨tis,[(105,f105.S),(157,f157.S)],[],[],[(4,⟨[(5,.c (.own 0)),(11,rI),(12,n6),(13,n6)],[(0,.arr tI)]⟩)],[],0,[],fuel⟩
theorem f102.run:RunOk f102.E Go.Proofs.Tryz.f102 f102.S:=by intro x;kernel_rfl
theorem f102.sound:Sound Go.Proofs.Tryz.prog 102 f102.S:=sound_of_run (fun _=>f102.E 100000000000000000000) (by kernel_rfl) (by kernel_rfl) (by kernel_rfl) orders (fun _=>⟨tis_ok,EqsOk.nil _,(fc f105.sound (fc f157.sound FnsOk.nil))⟩) (fun _=>rfl) (by kernel_rfl) (by kernel_rfl) (fun x r h=>(f102.run x).trans h)
/-! f52: (*adit/crawl.maker).furnish -/
def f52.L1 (x:Int×Int×Int×Int×Int×Int×Int×Int×Int×Int×Bool×Bool×List (Int×Int×Int×Int)×List E11×List Int×List E11×List (Int×Int×Int×Int)×Unit):Option (Int×Int×Int×Int×Int×Int×Int×Int×Bool×Bool×List (Int×Int×Int×Int)×List Int×List E11×List (Int×Int×Int×Int)×Unit) :=
 it (X:=Int×Int×Int×Int×Int×Int×Int×Int×Int×Int×Bool×Bool×List (Int×Int×Int×Int)×List E11×List Int×List E11×List (Int×Int×Int×Int)×Unit) (fun rec x=>match x with
 | (v0,v1,v2,v3,v4,v5,v6,v7,v8,v9,v10,v11,v12,v13,v14,v15,v16,_) =>
 bif decide (v1 < v0) then
 bif inRange v1 (List.length v13) then
 Option.bind (f96 v15 (List.getD v13 (Int.toNat v1) (0,0,0,0,0,0,0,0,0,0,0)).2.2.2.1 (List.getD v13 (Int.toNat v1) (0,0,0,0,0,0,0,0,0,0,0)).2.2.2.2.1) fun y0 =>
 bif decide (y0.1 < 0) then
 Option.bind (f101 (List.getD v13 (Int.toNat v1) (0,0,0,0,0,0,0,0,0,0,0)).1 (List.getD v13 (Int.toNat v1) (0,0,0,0,0,0,0,0,0,0,0)).2.1 (List.getD v13 (Int.toNat v1) (0,0,0,0,0,0,0,0,0,0,0)).2.2.1 (List.getD v13 (Int.toNat v1) (0,0,0,0,0,0,0,0,0,0,0)).2.2.2.1 (List.getD v13 (Int.toNat v1) (0,0,0,0,0,0,0,0,0,0,0)).2.2.2.2.1 (List.getD v13 (Int.toNat v1) (0,0,0,0,0,0,0,0,0,0,0)).2.2.2.2.2.1 (List.getD v13 (Int.toNat v1) (0,0,0,0,0,0,0,0,0,0,0)).2.2.2.2.2.2.1 (List.getD v13 (Int.toNat v1) (0,0,0,0,0,0,0,0,0,0,0)).2.2.2.2.2.2.2.1 (List.getD v13 (Int.toNat v1) (0,0,0,0,0,0,0,0,0,0,0)).2.2.2.2.2.2.2.2.1 (List.getD v13 (Int.toNat v1) (0,0,0,0,0,0,0,0,0,0,0)).2.2.2.2.2.2.2.2.2.1 (List.getD v13 (Int.toNat v1) (0,0,0,0,0,0,0,0,0,0,0)).2.2.2.2.2.2.2.2.2.2 v2 v3 v4 v5 v6 v7 v8 v9 v10 v11 v14 v15 v12) fun y1 =>
 rec (v0,IntKind.wrap .i64 (v1 + 1),y1.1,y1.2.1,y1.2.2.1,y1.2.2.2.1,y1.2.2.2.2.1,y1.2.2.2.2.2.1,y1.2.2.2.2.2.2.1,y1.2.2.2.2.2.2.2.1,y1.2.2.2.2.2.2.2.2.1,y1.2.2.2.2.2.2.2.2.2.1,y1.2.2.2.2.2.2.2.2.2.2.2.1,v13,y1.2.2.2.2.2.2.2.2.2.2.1,y1.2.2.2.2.2.2.2.2.2.2.2.2.1,v16,())
 else
 rec (v0,IntKind.wrap .i64 (v1 + 1),v2,v3,v4,v5,v6,v7,v8,v9,v10,v11,v12,v13,v14,v15,v16,())
 else
 none
 else
 Option.bind (f102 v12 v16) fun y2 =>
 some ((v2,v3,v4,v5,v6,v7,v8,v9,v10,v11,v12,v14,v15,y2.1,()))
 ) (100000000000000000000) (x)
def f52 (a0:Int) (a1:Int) (a2:Int) (a3:Int) (a4:Int) (a5:Int) (a6:Int) (a7:Int) (a8:Bool) (a9:Bool) (a10:List E11) (a11:List (Int×Int×Int×Int)):Option (Int×Int×Int×Int×Int×Int×Int×Int×Bool×Bool×List (Int×Int×Int×Int)×List Int×List E11×List (Int×Int×Int×Int)×Unit) :=
 Option.bind (f11 a0 a2) fun y0 =>
 Option.bind (f100 a0 a1 a2 a3 a4 a5 a6 a7 a8 a9 y0.2.1 a10 a11) fun y1 =>
 f52.L1 (((↑(List.length y0.2.2.1):Int),0,y1.1,y1.2.1,y1.2.2.1,y1.2.2.2.1,y1.2.2.2.2.1,y1.2.2.2.2.2.1,y1.2.2.2.2.2.2.1,y1.2.2.2.2.2.2.2.1,y1.2.2.2.2.2.2.2.2.1,y1.2.2.2.2.2.2.2.2.2.1,y1.2.2.2.2.2.2.2.2.2.2.2.2.1,y0.2.2.1,y1.2.2.2.2.2.2.2.2.2.2.1,y1.2.2.2.2.2.2.2.2.2.2.2.1,y0.2.2.2.1,()))
def f52.ins:Shape:=⟨[(0,.c (.ptr 0 0))],[(0,.box [.int .i64,.int .i64,.int .i64,.int .i64,.nils,.own 1,.own 2,.int .i64,.int .i64,.int .i64,.int .i64,.bool,.bool]),(1,.arr tE),(2,.arr tI)]⟩
def f52.outs:List Shape:=[⟨[],[(0,.box [.int .i64,.int .i64,.int .i64,.int .i64,.own 3,.own 4,.own 5,.int .i64,.int .i64,.int .i64,.int .i64,.bool,.bool]),(2,.arr tI),(3,.arr (.int .u8)),(4,.arr tE),(5,.arr tI)]⟩]
def f52.S:FnSpec:=⟨f52.ins,f52.outs,[0,2],fun x=>f52 x.1 x.2.1 x.2.2.1 x.2.2.2.1 x.2.2.2.2.1 x.2.2.2.2.2.1 x.2.2.2.2.2.2.1 x.2.2.2.2.2.2.2.1 x.2.2.2.2.2.2.2.2.1 x.2.2.2.2.2.2.2.2.2.1 x.2.2.2.2.2.2.2.2.2.2.1 x.2.2.2.2.2.2.2.2.2.2.2.1⟩
def f52.E (fuel:Nat):Env:=⟨tis,[(11,f11.S),(96,f96.S),(100,f100.S),(101,f101.S),(102,f102.S)],[],[],[(5,⟨[(0,.c (.ptr 0 0)),(2,.c (.ptr 3 0)),(29,.c (.own 4)),(30,n6),(31,n6)],[(0,.box [.int .i64,.int .i64,.int .i64,.int .i64,.own 5,.own 6,.own 2,.int .i64,.int .i64,.int .i64,.int .i64,.bool,.bool]),(2,.arr tI),(3,.box [.own 5,.own 4,.own 7]),(4,.arr tE),(5,.arr (.int .u8)),(6,.arr tE),(7,.arr tI)]⟩)],[],3,[0,2],fuel⟩
theorem f52.run:RunOk f52.E Go.Proofs.Tryz.f52 f52.S:=by intro x;kernel_rfl
theorem f52.sound:Sound Go.Proofs.Tryz.prog 52 f52.S:=sound_of_run (fun _=>f52.E 100000000000000000000) (by kernel_rfl) (by kernel_rfl) (by kernel_rfl) orders (fun _=>⟨tis_ok,EqsOk.nil _,(fc f11.sound (fc f96.sound (fc f100.sound (fc f101.sound (fc f102.sound FnsOk.nil)))))⟩) (fun _=>rfl) (by kernel_rfl) (by kernel_rfl) (fun x r h=>(f52.run x).trans h)
/-! f19: adit/crawl.New -/
def f19 (a0:Int):Option (Int×Int×Int×Int×Int×Int×Int×Int×List Int×List E11×List (Int×Int×Int×Int)×Unit) :=
 Option.bind (f52 a0 0 1 0 0 0 0 0 Bool.false Bool.false (List.replicate 32 (0,0,0,0,0,0,0,0,0,0,0)) (List.replicate 40 (0,0,0,0))) fun y0 =>
 some ((y0.1,y0.2.1,y0.2.2.1,y0.2.2.2.1,y0.2.2.2.2.1,y0.2.2.2.2.2.1,y0.2.2.2.2.2.2.1,y0.2.2.2.2.2.2.2.1,y0.2.2.2.2.2.2.2.2.2.2.2.1,y0.2.2.2.2.2.2.2.2.2.2.2.2.1,y0.2.2.2.2.2.2.2.2.2.2.2.2.2.1,()))
def f19.ins:Shape:=⟨[(0,n6)],[]⟩
def f19.outs:List Shape:=[⟨[(0,.agg [.int .i64,.int .i64,.int .i64,.int .i64,.own 0,.own 1,.own 2,.int .i64,.int .i64,.int .i64,.int .i64])],[(0,.arr (.int .u8)),(1,.arr tE),(2,.arr tI)]⟩]
def f19.S:FnSpec:=⟨f19.ins,f19.outs,[],fun x=>f19 x.1⟩
def f19.E (fuel:Nat):Env:=⟨tis,[(52,f52.S)],[],[],[],[],0,[],fuel⟩
theorem f19.run:RunOk f19.E Go.Proofs.Tryz.f19 f19.S:=by intro x;kernel_rfl
theorem f19.sound:Sound Go.Proofs.Tryz.prog 19 f19.S:=sound_of_run (fun _=>f19.E 100000000000000000000) (by kernel_rfl) (by kernel_rfl) (by kernel_rfl) orders (fun _=>⟨tis_ok,EqsOk.nil _,(fc f52.sound FnsOk.nil)⟩) (fun _=>rfl) (by kernel_rfl) (by kernel_rfl) (fun x r h=>(f19.run x).trans h)
/-! f103: slices.Clone[[]byte,byte] -/
def f103 (a0:List Int):Option (List Int×Unit):=cloneF (.int .u8) 1 a0
def f103.S:FnSpec:=⟨cloneIns (.int .u8),cloneOuts (.int .u8),[],fun x=>f103 x.1⟩
def f103.E:Env:=⟨tis,[],[],[],[],[],0,[],1⟩
theorem f103.sound:Sound Go.Proofs.Tryz.prog 103 f103.S:=clone_sound (fn:=Go.Proofs.Tryz.f103) (t:=23) (q:=5) (u:=4) (bytes:=1) (i:=ty23) f103.E (by kernel_rfl) (by kernel_rfl) (by kernel_rfl) orders (by kernel_rfl) ⟨tis_ok,EqsOk.nil _,FnsOk.nil⟩ rfl (by kernel_rfl) (by kernel_rfl) (by intro l A K;kernel_rfl) (by kernel_rfl) (by intro l;kernel_rfl)
/-! f53: adit/crawl.twin -/
def f53 (a0:Int) (a1:Int) (a2:Int) (a3:Int) (a4:List Int) (a5:List E11) (a6:List (Int×Int×Int×Int)) (a7:Int) (a8:Int) (a9:Int) (a10:Int):Option (Int×Int×Int×Int×Int×Int×Int×Int×List Int×List E11×List (Int×Int×Int×Int)×Unit) :=
 Option.bind (f103 a4) fun y0 =>
 Option.bind (f104 a5) fun y1 =>
 Option.bind (f105 a6) fun y2 =>
 some ((a0,a1,a2,a3,a7,a8,a9,a10,y0.1,y1.1,y2.1,()))
def f53.ins:Shape:=⟨[(0,wS)],[]⟩
def f53.outs:List Shape:=[⟨[(0,.agg [.int .i64,.int .i64,.int .i64,.int .i64,.own 0,.own 1,.own 2,.int .i64,.int .i64,.int .i64,.int .i64])],[(0,.arr (.int .u8)),(1,.arr tE),(2,.arr tI)]⟩]
def f53.S:FnSpec:=⟨f53.ins,f53.outs,[],fun x=>f53 x.1 x.2.1 x.2.2.1 x.2.2.2.1 x.2.2.2.2.1 x.2.2.2.2.2.1 x.2.2.2.2.2.2.1 x.2.2.2.2.2.2.2.1 x.2.2.2.2.2.2.2.2.1 x.2.2.2.2.2.2.2.2.2.1 x.2.2.2.2.2.2.2.2.2.2.1⟩
def f53.E (fuel:Nat):Env:=⟨tis,[(104,f104.S),(105,f105.S),(103,f103.S)],[],[],[],[],0,[],fuel⟩
theorem f53.run:RunOk f53.E Go.Proofs.Tryz.f53 f53.S:=by intro x;kernel_rfl
theorem f53.sound:Sound Go.Proofs.Tryz.prog 53 f53.S:=sound_of_run (fun _=>f53.E 100000000000000000000) (by kernel_rfl) (by kernel_rfl) (by kernel_rfl) orders (fun _=>⟨tis_ok,EqsOk.nil _,(fc f104.sound (fc f105.sound (fc f103.sound FnsOk.nil)))⟩) (fun _=>rfl) (by kernel_rfl) (by kernel_rfl) (fun x r h=>(f53.run x).trans h)
/-! f107: (*adit/crawl.maker).heroes$1 -/
def f107 (a0:Int) (a1:Int) (a2:Int) (a3:Int) (a4:Int) (a5:Int) (a6:Int) (a7:Int) (a8:Int) (a9:Int) (a10:Int):Option (Bool×Unit) :=
 some ((a0 == 1,()))
def f107.ins:Shape:=⟨[(0,eS)],[]⟩
def f107.outs:List Shape:=[⟨[(0,.c (.bool))],[]⟩]
def f107.S:FnSpec:=⟨f107.ins,f107.outs,[],fun x=>f107 x.1 x.2.1 x.2.2.1 x.2.2.2.1 x.2.2.2.2.1 x.2.2.2.2.2.1 x.2.2.2.2.2.2.1 x.2.2.2.2.2.2.2.1 x.2.2.2.2.2.2.2.2.1 x.2.2.2.2.2.2.2.2.2.1 x.2.2.2.2.2.2.2.2.2.2.1⟩
def f107.E (fuel:Nat):Env:=⟨tis,[],[],[],[],[],0,[],fuel⟩
theorem f107.run:RunOk f107.E Go.Proofs.Tryz.f107 f107.S:=by intro x;kernel_rfl
theorem f107.sound:Sound Go.Proofs.Tryz.prog 107 f107.S:=sound_of_run (fun _=>f107.E 100000000000000000000) (by kernel_rfl) (by kernel_rfl) (by kernel_rfl) orders (fun _=>⟨tis_ok,EqsOk.nil _,FnsOk.nil⟩) (fun _=>rfl) (by kernel_rfl) (by kernel_rfl) (fun x r h=>(f107.run x).trans h)
/-! f158: slices.IndexFunc[[]adit/api.Ent,adit/api.Ent] -/
def f158.L1 (x:List E11×Int×Int×Unit):Option (Int×Unit) :=
 it (X:=List E11×Int×Int×Unit) (fun rec x =>
 bif decide (x.2.2.1 < x.2.1) then
 bif inRange x.2.2.1 (List.length x.1) then
 Option.bind (f107 (List.getD x.1 (Int.toNat x.2.2.1) (0,0,0,0,0,0,0,0,0,0,0)).1 (List.getD x.1 (Int.toNat x.2.2.1) (0,0,0,0,0,0,0,0,0,0,0)).2.1 (List.getD x.1 (Int.toNat x.2.2.1) (0,0,0,0,0,0,0,0,0,0,0)).2.2.1 (List.getD x.1 (Int.toNat x.2.2.1) (0,0,0,0,0,0,0,0,0,0,0)).2.2.2.1 (List.getD x.1 (Int.toNat x.2.2.1) (0,0,0,0,0,0,0,0,0,0,0)).2.2.2.2.1 (List.getD x.1 (Int.toNat x.2.2.1) (0,0,0,0,0,0,0,0,0,0,0)).2.2.2.2.2.1 (List.getD x.1 (Int.toNat x.2.2.1) (0,0,0,0,0,0,0,0,0,0,0)).2.2.2.2.2.2.1 (List.getD x.1 (Int.toNat x.2.2.1) (0,0,0,0,0,0,0,0,0,0,0)).2.2.2.2.2.2.2.1 (List.getD x.1 (Int.toNat x.2.2.1) (0,0,0,0,0,0,0,0,0,0,0)).2.2.2.2.2.2.2.2.1 (List.getD x.1 (Int.toNat x.2.2.1) (0,0,0,0,0,0,0,0,0,0,0)).2.2.2.2.2.2.2.2.2.1 (List.getD x.1 (Int.toNat x.2.2.1) (0,0,0,0,0,0,0,0,0,0,0)).2.2.2.2.2.2.2.2.2.2) fun y0 =>
 bif y0.1 then
 some ((x.2.2.1,()))
 else
 rec (x.1,x.2.1,IntKind.wrap .i64 (x.2.2.1 + 1),())
 else
 none
 else
 some ((-1,()))
 ) (100000000000000000000) (x)
def f158 (a0:List E11):Option (Int×Unit) :=
 f158.L1 ((a0,(↑(List.length a0):Int),0,()))
def f158.ins:Shape:=⟨[(0,rE),(1,.c (.fn 107 []))],[]⟩
def f158.outs:List Shape:=[⟨[(0,n6)],[]⟩]
def f158.S:FnSpec:=⟨f158.ins,f158.outs,[],fun x=>f158 x.1⟩
def f158.E (fuel:Nat):Env:=⟨tis,[(107,f107.S)],[],[],[(3,⟨[(0,rE),(1,.c (.fn 107 [])),(7,n6),(8,n6)],[]⟩)],[],0,[],fuel⟩
theorem f158.run:RunOk f158.E Go.Proofs.Tryz.f158 f158.S:=by intro x;kernel_rfl
theorem f158.sound:Sound Go.Proofs.Tryz.prog 158 f158.S:=sound_of_run (fun _=>f158.E 100000000000000000000) (by kernel_rfl) (by kernel_rfl) (by kernel_rfl) orders (fun _=>⟨tis_ok,EqsOk.nil _,(fc f107.sound FnsOk.nil)⟩) (fun _=>rfl) (by kernel_rfl) (by kernel_rfl) (fun x r h=>(f158.run x).trans h)
/-! f106: slices.ContainsFunc[[]adit/api.Ent,adit/api.Ent] -/
def f106 (a0:List E11):Option (Bool×Unit) :=
 Option.bind (f158 a0) fun y0 =>
 some ((decide (y0.1 ≥ 0),()))
def f106.ins:Shape:=⟨[(0,rE),(1,.c (.fn 107 []))],[]⟩
def f106.outs:List Shape:=[⟨[(0,.c (.bool))],[]⟩]
def f106.S:FnSpec:=⟨f106.ins,f106.outs,[],fun x=>f106 x.1⟩
def f106.E (fuel:Nat):Env:=⟨tis,[(158,f158.S)],[],[],[],[],0,[],fuel⟩
theorem f106.run:RunOk f106.E Go.Proofs.Tryz.f106 f106.S:=by intro x;kernel_rfl
theorem f106.sound:Sound Go.Proofs.Tryz.prog 106 f106.S:=sound_of_run (fun _=>f106.E 100000000000000000000) (by kernel_rfl) (by kernel_rfl) (by kernel_rfl) orders (fun _=>⟨tis_ok,EqsOk.nil _,(fc f158.sound FnsOk.nil)⟩) (fun _=>rfl) (by kernel_rfl) (by kernel_rfl) (fun x r h=>(f106.run x).trans h)
/-! f54: (*adit/crawl.maker).heroes -/
def f54 (a0:(Int×Int×Int×Int×List Int×List E11×List (Int×Int×Int×Int)×Int×Int×Int×Int)×Bool×Bool):Option (Bool×Unit) :=
 Option.bind (f106 a0.1.2.2.2.2.2.1) fun y0 =>
 some ((y0.1,()))
def f54.ins:Shape:=⟨[(0,.c (.bptr (.prod (.prod (.int .i64) (.prod (.int .i64) (.prod (.int .i64) (.prod (.int .i64) (.prod (.row (.int .u8)) (.prod (.row tE) (.prod (.row tI) tI))))))) (.prod .bool .bool))))],[]⟩
def f54.outs:List Shape:=[⟨[(0,.c (.bool))],[]⟩]
def f54.S:FnSpec:=⟨f54.ins,f54.outs,[],fun x=>f54 x.1⟩
def f54.E (fuel:Nat):Env:=⟨tis,[(106,f106.S)],[],[],[],[],0,[],fuel⟩
theorem f54.run:RunOk f54.E Go.Proofs.Tryz.f54 f54.S:=by intro x;kernel_rfl
theorem f54.sound:Sound Go.Proofs.Tryz.prog 54 f54.S:=sound_of_run (fun _=>f54.E 100000000000000000000) (by kernel_rfl) (by kernel_rfl) (by kernel_rfl) orders (fun _=>⟨tis_ok,EqsOk.nil _,(fc f106.sound FnsOk.nil)⟩) (fun _=>rfl) (by kernel_rfl) (by kernel_rfl) (fun x r h=>(f54.run x).trans h)
/-! f55: (*adit/crawl.maker).come -/
def f55 (a0:Int) (a1:Int) (a2:Int) (a3:Int) (a4:Int) (a5:Int) (a6:Int) (a7:Int) (a8:Int) (a9:Bool) (a10:Bool) (a11:List Int) (a12:List E11) (a13:List (Int×Int×Int×Int)):Option (Int×Int×Int×Int×Int×Int×Int×Int×Bool×Bool×List Int×List (Int×Int×Int×Int)×List E11×Unit) :=
 Option.bind (f108 ((a1,a2,a3,a4,a11,a12,a13,a5,a6,a7,a8),a9,a10)) fun y0 =>
 bif !y0.2.2.1 then
 some ((a1,a2,a3,a4,a5,a6,a7,a8,a9,a10,a11,a13,a12,()))
 else
 Option.bind (f97 a12 a0) fun y1 =>
 bif decide (y1.1 ≥ 0) then
 some ((a1,a2,a3,a4,a5,a6,a7,a8,a9,a10,a11,a13,a12,()))
 else
 Option.bind (f109 a11 a12 y0.1 y0.2.1) fun y2 =>
 bif decide (y2.1 < 0) then
 some ((a1,a2,a3,a4,a5,a6,a7,a8,a9,a10,a11,a13,a12,()))
 else
 Option.bind (f75 1) fun y3 =>
 Option.bind (f101 y3.1 y3.2.1 a0 (Int.tmod y2.1 24) (IntKind.wrap .i64 (Int.tdiv y2.1 24)) y3.2.2.2.2.2.1 y3.2.2.2.2.2.2.1 y3.2.2.2.2.2.2.2.1 y3.2.2.2.2.2.2.2.2.1 y3.2.2.2.2.2.2.2.2.2.1 y3.2.2.2.2.2.2.2.2.2.2.1 a1 a2 a3 a4 a5 a6 a7 a8 a9 a10 a11 a12 a13) fun y4 =>
 some ((y4.1,y4.2.1,y4.2.2.1,y4.2.2.2.1,y4.2.2.2.2.1,y4.2.2.2.2.2.1,y4.2.2.2.2.2.2.1,y4.2.2.2.2.2.2.2.1,y4.2.2.2.2.2.2.2.2.1,y4.2.2.2.2.2.2.2.2.2.1,y4.2.2.2.2.2.2.2.2.2.2.1,y4.2.2.2.2.2.2.2.2.2.2.2.1,y4.2.2.2.2.2.2.2.2.2.2.2.2.1,()))
def f55.ins:Shape:=⟨[(0,.c (.ptr 0 0)),(1,n6)],[(0,.box [.int .i64,.int .i64,.int .i64,.int .i64,.own 1,.own 2,.own 3,.int .i64,.int .i64,.int .i64,.int .i64,.bool,.bool]),(1,.arr (.int .u8)),(2,.arr tE),(3,.arr tI)]⟩
def f55.outs:List Shape:=[⟨[],[(0,.box [.int .i64,.int .i64,.int .i64,.int .i64,.own 1,.own 4,.own 3,.int .i64,.int .i64,.int .i64,.int .i64,.bool,.bool]),(1,.arr (.int .u8)),(3,.arr tI),(4,.arr tE)]⟩]
def f55.S:FnSpec:=⟨f55.ins,f55.outs,[0,1,3],fun x=>f55 x.1 x.2.1 x.2.2.1 x.2.2.2.1 x.2.2.2.2.1 x.2.2.2.2.2.1 x.2.2.2.2.2.2.1 x.2.2.2.2.2.2.2.1 x.2.2.2.2.2.2.2.2.1 x.2.2.2.2.2.2.2.2.2.1 x.2.2.2.2.2.2.2.2.2.2.1 x.2.2.2.2.2.2.2.2.2.2.2.1 x.2.2.2.2.2.2.2.2.2.2.2.2.1 x.2.2.2.2.2.2.2.2.2.2.2.2.2.1⟩
def f55.E (fuel:Nat):Env:=⟨tis,[(75,f75.S),(108,f108.S),(97,f97.S),(109,f109.S),(101,f101.S)],[],[],[],[],4,[0,1,3],fuel⟩
theorem f55.run:RunOk f55.E Go.Proofs.Tryz.f55 f55.S:=by intro x;kernel_rfl
theorem f55.sound:Sound Go.Proofs.Tryz.prog 55 f55.S:=sound_of_run (fun _=>f55.E 100000000000000000000) (by kernel_rfl) (by kernel_rfl) (by kernel_rfl) orders (fun _=>⟨tis_ok,EqsOk.nil _,(fc f75.sound (fc f108.sound (fc f97.sound (fc f109.sound (fc f101.sound FnsOk.nil)))))⟩) (fun _=>rfl) (by kernel_rfl) (by kernel_rfl) (fun x r h=>(f55.run x).trans h)
/-! f213: adit/minds.bag -/
def f213.L1 (x:Int×Bool×Int×List (Int×Int×Int×Int)×Int×Int×Unit):Option (Bool×Bool×Unit) :=
 it (X:=Int×Bool×Int×List (Int×Int×Int×Int)×Int×Int×Unit) (fun rec x =>
 bif decide (x.2.2.2.2.2.1 < x.2.2.2.2.1) then
 bif inRange x.2.2.2.2.2.1 (List.length x.2.2.2.1) then
 bif (List.getD x.2.2.2.1 (Int.toNat x.2.2.2.2.2.1) (0,0,0,0)).1 != 0 then
 bif (List.getD x.2.2.2.1 (Int.toNat x.2.2.2.2.2.1) (0,0,0,0)).2.1 == 2 then
 bif (List.getD x.2.2.2.1 (Int.toNat x.2.2.2.2.2.1) (0,0,0,0)).2.2.1 == x.1 then
 bif x.2.1 then
 rec (x.1,Bool.true,IntKind.wrap .i64 (x.2.2.1 + 1),x.2.2.2.1,x.2.2.2.2.1,IntKind.wrap .i64 (x.2.2.2.2.2.1 + 1),())
 else
 rec (x.1,(List.getD x.2.2.2.1 (Int.toNat x.2.2.2.2.2.1) (0,0,0,0)).1 == 1,IntKind.wrap .i64 (x.2.2.1 + 1),x.2.2.2.1,x.2.2.2.2.1,IntKind.wrap .i64 (x.2.2.2.2.2.1 + 1),())
 else
 rec (x.1,x.2.1,x.2.2.1,x.2.2.2.1,x.2.2.2.2.1,IntKind.wrap .i64 (x.2.2.2.2.2.1 + 1),())
 else
 rec (x.1,x.2.1,x.2.2.1,x.2.2.2.1,x.2.2.2.2.1,IntKind.wrap .i64 (x.2.2.2.2.2.1 + 1),())
 else
 rec (x.1,x.2.1,x.2.2.1,x.2.2.2.1,x.2.2.2.2.1,IntKind.wrap .i64 (x.2.2.2.2.2.1 + 1),())
 else
 none
 else
 some ((x.2.1,decide (x.2.2.1 < 4),()))
 ) (100000000000000000000) (x)
def f213 (a0:Int) (a1:Int) (a2:Int) (a3:Int) (a4:List Int) (a5:List E11) (a6:List (Int×Int×Int×Int)) (a7:Int) (a8:Int) (a9:Int) (a10:Int) (a11:Int):Option (Bool×Bool×Unit) :=
 f213.L1 ((a11,Bool.false,0,a6,(↑(List.length a6):Int),0,()))
def f213.ins:Shape:=⟨[(0,wS),(1,n6)],[]⟩
def f213.outs:List Shape:=[⟨[(0,.c (.bool)),(1,.c (.bool))],[]⟩]
def f213.S:FnSpec:=⟨f213.ins,f213.outs,[],fun x=>f213 x.1 x.2.1 x.2.2.1 x.2.2.2.1 x.2.2.2.2.1 x.2.2.2.2.2.1 x.2.2.2.2.2.2.1 x.2.2.2.2.2.2.2.1 x.2.2.2.2.2.2.2.2.1 x.2.2.2.2.2.2.2.2.2.1 x.2.2.2.2.2.2.2.2.2.2.1 x.2.2.2.2.2.2.2.2.2.2.2.1⟩
def f213.E (fuel:Nat):Env:=⟨tis,[],[],[],[(4,⟨[(1,n6),(4,.c (.bool)),(6,n6),(10,rI),(11,n6),(12,n6)],[]⟩)],[],0,[],fuel⟩
theorem f213.run:RunOk f213.E Go.Proofs.Tryz.f213 f213.S:=by intro x;kernel_rfl
theorem f213.sound:Sound Go.Proofs.Tryz.prog 213 f213.S:=sound_of_run (fun _=>f213.E 100000000000000000000) (by kernel_rfl) (by kernel_rfl) (by kernel_rfl) orders (fun _=>⟨tis_ok,EqsOk.nil _,FnsOk.nil⟩) (fun _=>rfl) (by kernel_rfl) (by kernel_rfl) (fun x r h=>(f213.run x).trans h)
/-! f131: adit/fix.turned -/
def f131.L1 (x:Int×Int×Int×Int×Unit):Option (Int×Int×Unit) :=
 it (X:=Int×Int×Int×Int×Unit) (fun rec x =>
 bif decide (x.2.2.2.1 < x.2.2.1) then
 bif small x.1 && small x.2.1 then
 rec (-x.2.1,x.1,x.2.2.1,IntKind.wrap .i64 (x.2.2.2.1 + 1),())
 else
 none
 else
 some ((x.1,x.2.1,()))
 ) (100000000000000000000) (x)
def f131 (a0:Int) (a1:Int) (a2:Int):Option (Int×Int×Unit) :=
 f131.L1 ((a0,a1,Int.tmod (IntKind.wrap .i64 (Int.tmod a2 4 + 4)) 4,0,()))
def f131.ins:Shape:=⟨[(0,.c (.cint)),(1,n6)],[]⟩
def f131.outs:List Shape:=[⟨[(0,.c (.cint))],[]⟩]
def f131.S:FnSpec:=⟨f131.ins,f131.outs,[],fun x=>f131 x.1 x.2.1 x.2.2.1⟩
def f131.E (fuel:Nat):Env:=⟨tis,[],[],[],[(3,⟨[(0,.c (.cint)),(8,n6),(9,n6)],[]⟩)],[],0,[],fuel⟩
theorem f131.run:RunOk f131.E Go.Proofs.Tryz.f131 f131.S:=by intro x;kernel_rfl
theorem f131.sound:Sound Go.Proofs.Tryz.prog 131 f131.S:=sound_of_run (fun _=>f131.E 100000000000000000000) (by kernel_rfl) (by kernel_rfl) (by kernel_rfl) orders (fun _=>⟨tis_ok,EqsOk.nil _,FnsOk.nil⟩) (fun _=>rfl) (by kernel_rfl) (by kernel_rfl) (fun x r h=>(f131.run x).trans h)
/-! f130: adit/fix.plain -/
def f130 (a0:Int) (a1:Int):Option (Int×Int×Unit) :=
 bif small a0 then
 bif small a1 then
 some ((a0,a1,()))
 else
 none
 else
 none
def f130.ins:Shape:=⟨[(0,.c (.cint))],[]⟩
def f130.outs:List Shape:=[⟨[(0,n6),(1,n6)],[]⟩]
def f130.S:FnSpec:=⟨f130.ins,f130.outs,[],fun x=>f130 x.1 x.2.1⟩
def f130.E (fuel:Nat):Env:=⟨tis,[],[],[],[],[],0,[],fuel⟩
theorem f130.run:RunOk f130.E Go.Proofs.Tryz.f130 f130.S:=by intro x;kernel_rfl
theorem f130.sound:Sound Go.Proofs.Tryz.prog 130 f130.S:=sound_of_run (fun _=>f130.E 100000000000000000000) (by kernel_rfl) (by kernel_rfl) (by kernel_rfl) orders (fun _=>⟨tis_ok,EqsOk.nil _,FnsOk.nil⟩) (fun _=>rfl) (by kernel_rfl) (by kernel_rfl) (fun x r h=>(f130.run x).trans h)
/-! f78: adit/fix.Way -/
def f78 (a0:Int):Option (Int×Int×Unit) :=
 bif decide (a0 < 1) then
 some ((0,0,()))
 else
 bif decide (a0 > 4) then
 some ((0,0,()))
 else
 Option.bind (f131 0 (-1) (IntKind.wrap .i64 (a0 - 1))) fun y0 =>
 Option.bind (f130 y0.1 y0.2.1) fun y1 =>
 some ((y1.1,y1.2.1,()))
def f78.ins:Shape:=⟨[(0,n6)],[]⟩
def f78.outs:List Shape:=[⟨[(0,n6),(1,n6)],[]⟩]
def f78.S:FnSpec:=⟨f78.ins,f78.outs,[],fun x=>f78 x.1⟩
def f78.E (fuel:Nat):Env:=⟨tis,[(131,f131.S),(130,f130.S)],[],[],[],[],0,[],fuel⟩
theorem f78.run:RunOk f78.E Go.Proofs.Tryz.f78 f78.S:=by intro x;kernel_rfl
theorem f78.sound:Sound Go.Proofs.Tryz.prog 78 f78.S:=sound_of_run (fun _=>f78.E 100000000000000000000) (by kernel_rfl) (by kernel_rfl) (by kernel_rfl) orders (fun _=>⟨tis_ok,EqsOk.nil _,(fc f131.sound (fc f130.sound FnsOk.nil))⟩) (fun _=>rfl) (by kernel_rfl) (by kernel_rfl) (fun x r h=>(f78.run x).trans h)
/-! f214: adit/minds.ahead -/
def f214 (a0:Int) (a1:Int) (a2:Int) (a3:Int) (a4:Int) (a5:Int) (a6:Int) (a7:Int) (a8:Int) (a9:Int) (a10:Int) (a11:Int):Option (Int×Int×Unit) :=
 Option.bind (f78 a11) fun y0 =>
 bif small a3 then
 bif small a4 then
 bif small y0.1 then
 bif small y0.2.1 then
 bif small (a3 + y0.1) && small (a4 + y0.2.1) then
 bif small (a3 + y0.1) then
 bif small (a4 + y0.2.1) then
 some ((a3 + y0.1,a4 + y0.2.1,()))
 else
 none
 else
 none
 else
 none
 else
 none
 else
 none
 else
 none
 else
 none
def f214.ins:Shape:=⟨[(0,eS),(1,n6)],[]⟩
def f214.outs:List Shape:=[⟨[(0,n6),(1,n6)],[]⟩]
def f214.S:FnSpec:=⟨f214.ins,f214.outs,[],fun x=>f214 x.1 x.2.1 x.2.2.1 x.2.2.2.1 x.2.2.2.2.1 x.2.2.2.2.2.1 x.2.2.2.2.2.2.1 x.2.2.2.2.2.2.2.1 x.2.2.2.2.2.2.2.2.1 x.2.2.2.2.2.2.2.2.2.1 x.2.2.2.2.2.2.2.2.2.2.1 x.2.2.2.2.2.2.2.2.2.2.2.1⟩
def f214.E (fuel:Nat):Env:=⟨tis,[(78,f78.S)],[],[],[],[],0,[],fuel⟩
theorem f214.run:RunOk f214.E Go.Proofs.Tryz.f214 f214.S:=by intro x;kernel_rfl
theorem f214.sound:Sound Go.Proofs.Tryz.prog 214 f214.S:=sound_of_run (fun _=>f214.E 100000000000000000000) (by kernel_rfl) (by kernel_rfl) (by kernel_rfl) orders (fun _=>⟨tis_ok,EqsOk.nil _,(fc f78.sound FnsOk.nil)⟩) (fun _=>rfl) (by kernel_rfl) (by kernel_rfl) (fun x r h=>(f214.run x).trans h)
/-! f215: adit/minds.worth -/
def f215.L1 (x:Int×Int×Bool×List (Int×Int×Int×Int)×Int×Int×Unit):Option (Bool×Unit) :=
 it (X:=Int×Int×Bool×List (Int×Int×Int×Int)×Int×Int×Unit) (fun rec x =>
 bif decide (x.2.2.2.2.2.1 < x.2.2.2.2.1) then
 bif inRange x.2.2.2.2.2.1 (List.length x.2.2.2.1) then
 bif (List.getD x.2.2.2.1 (Int.toNat x.2.2.2.2.2.1) (0,0,0,0)).1 != 0 then
 bif (List.getD x.2.2.2.1 (Int.toNat x.2.2.2.2.2.1) (0,0,0,0)).2.1 == 1 then
 bif (List.getD x.2.2.2.1 (Int.toNat x.2.2.2.2.2.1) (0,0,0,0)).2.2.1 == x.1 then
 bif (List.getD x.2.2.2.1 (Int.toNat x.2.2.2.2.2.1) (0,0,0,0)).2.2.2 == x.2.1 then
 bif x.2.2.1 then
 some ((Bool.true,()))
 else
 some (((List.getD x.2.2.2.1 (Int.toNat x.2.2.2.2.2.1) (0,0,0,0)).1 == 4,()))
 else
 rec (x.1,x.2.1,x.2.2.1,x.2.2.2.1,x.2.2.2.2.1,IntKind.wrap .i64 (x.2.2.2.2.2.1 + 1),())
 else
 rec (x.1,x.2.1,x.2.2.1,x.2.2.2.1,x.2.2.2.2.1,IntKind.wrap .i64 (x.2.2.2.2.2.1 + 1),())
 else
 rec (x.1,x.2.1,x.2.2.1,x.2.2.2.1,x.2.2.2.2.1,IntKind.wrap .i64 (x.2.2.2.2.2.1 + 1),())
 else
 rec (x.1,x.2.1,x.2.2.1,x.2.2.2.1,x.2.2.2.2.1,IntKind.wrap .i64 (x.2.2.2.2.2.1 + 1),())
 else
 none
 else
 some ((Bool.false,()))
 ) (100000000000000000000) (x)
def f215 (a0:Int) (a1:Int) (a2:Int) (a3:Int) (a4:List Int) (a5:List E11) (a6:List (Int×Int×Int×Int)) (a7:Int) (a8:Int) (a9:Int) (a10:Int) (a11:Int) (a12:Int) (a13:Bool):Option (Bool×Unit) :=
 f215.L1 ((a11,a12,a13,a6,(↑(List.length a6):Int),0,()))
def f215.ins:Shape:=⟨[(0,wS),(1,n6),(2,n6),(3,.c (.bool))],[]⟩
def f215.outs:List Shape:=[⟨[(0,.c (.bool))],[]⟩]
def f215.S:FnSpec:=⟨f215.ins,f215.outs,[],fun x=>f215 x.1 x.2.1 x.2.2.1 x.2.2.2.1 x.2.2.2.2.1 x.2.2.2.2.2.1 x.2.2.2.2.2.2.1 x.2.2.2.2.2.2.2.1 x.2.2.2.2.2.2.2.2.1 x.2.2.2.2.2.2.2.2.2.1 x.2.2.2.2.2.2.2.2.2.2.1 x.2.2.2.2.2.2.2.2.2.2.2.1 x.2.2.2.2.2.2.2.2.2.2.2.2.1 x.2.2.2.2.2.2.2.2.2.2.2.2.2.1⟩
def f215.E (fuel:Nat):Env:=⟨tis,[],[],[],[(3,⟨[(1,n6),(2,n6),(3,.c (.bool)),(12,rI),(13,n6),(14,n6)],[]⟩)],[],0,[],fuel⟩
theorem f215.run:RunOk f215.E Go.Proofs.Tryz.f215 f215.S:=by intro x;kernel_rfl
theorem f215.sound:Sound Go.Proofs.Tryz.prog 215 f215.S:=sound_of_run (fun _=>f215.E 100000000000000000000) (by kernel_rfl) (by kernel_rfl) (by kernel_rfl) orders (fun _=>⟨tis_ok,EqsOk.nil _,FnsOk.nil⟩) (fun _=>rfl) (by kernel_rfl) (by kernel_rfl) (fun x r h=>(f215.run x).trans h)
/-! f95: adit/grid.At -/
def f95 (a0:List Int) (a1:Int) (a2:Int):Option (Int×Unit) :=
 Option.bind (f77 a1 a2) fun y0 =>
 Option.bind (f41 a0 y0.1) fun y1 =>
 some ((y1.1,()))
def f95.ins:Shape:=⟨[(0,r8),(1,n6),(2,n6)],[]⟩
def f95.outs:List Shape:=[⟨[(0,n6)],[]⟩]
def f95.S:FnSpec:=⟨f95.ins,f95.outs,[],fun x=>f95 x.1 x.2.1 x.2.2.1⟩
def f95.E (fuel:Nat):Env:=⟨tis,[(41,f41.S),(77,f77.S)],[],[],[],[],0,[],fuel⟩
theorem f95.run:RunOk f95.E Go.Proofs.Tryz.f95 f95.S:=by intro x;kernel_rfl
theorem f95.sound:Sound Go.Proofs.Tryz.prog 95 f95.S:=sound_of_run (fun _=>f95.E 100000000000000000000) (by kernel_rfl) (by kernel_rfl) (by kernel_rfl) orders (fun _=>⟨tis_ok,EqsOk.nil _,(fc f41.sound (fc f77.sound FnsOk.nil))⟩) (fun _=>rfl) (by kernel_rfl) (by kernel_rfl) (fun x r h=>(f95.run x).trans h)
/-! f45: adit/nav.step -/
def f45 (a0:Int) (a1:Int) (a2:Int):Option (Int×Int×Unit) :=
 Option.bind (f78 a2) fun y0 =>
 bif small y0.1 then
 bif small y0.2.1 then
 bif small (a0 + y0.1) && small (a1 + y0.2.1) then
 some ((a0 + y0.1,a1 + y0.2.1,()))
 else
 none
 else
 none
 else
 none
def f45.ins:Shape:=⟨[(0,.c (.cint)),(1,n6)],[]⟩
def f45.outs:List Shape:=[⟨[(0,.c (.cint))],[]⟩]
def f45.S:FnSpec:=⟨f45.ins,f45.outs,[],fun x=>f45 x.1 x.2.1 x.2.2.1⟩
def f45.E (fuel:Nat):Env:=⟨tis,[(78,f78.S)],[],[],[],[],0,[],fuel⟩
theorem f45.run:RunOk f45.E Go.Proofs.Tryz.f45 f45.S:=by intro x;kernel_rfl
theorem f45.sound:Sound Go.Proofs.Tryz.prog 45 f45.S:=sound_of_run (fun _=>f45.E 100000000000000000000) (by kernel_rfl) (by kernel_rfl) (by kernel_rfl) orders (fun _=>⟨tis_ok,EqsOk.nil _,(fc f78.sound FnsOk.nil)⟩) (fun _=>rfl) (by kernel_rfl) (by kernel_rfl) (fun x r h=>(f45.run x).trans h)
/-! f44: adit/nav.plain -/
def f44 (a0:Int) (a1:Int):Option (Int×Int×Unit) :=
 bif small a0 then
 bif small a1 then
 some ((a0,a1,()))
 else
 none
 else
 none
def f44.ins:Shape:=⟨[(0,.c (.cint))],[]⟩
def f44.outs:List Shape:=[⟨[(0,n6),(1,n6)],[]⟩]
def f44.S:FnSpec:=⟨f44.ins,f44.outs,[],fun x=>f44 x.1 x.2.1⟩
def f44.E (fuel:Nat):Env:=⟨tis,[],[],[],[],[],0,[],fuel⟩
theorem f44.run:RunOk f44.E Go.Proofs.Tryz.f44 f44.S:=by intro x;kernel_rfl
theorem f44.sound:Sound Go.Proofs.Tryz.prog 44 f44.S:=sound_of_run (fun _=>f44.E 100000000000000000000) (by kernel_rfl) (by kernel_rfl) (by kernel_rfl) orders (fun _=>⟨tis_ok,EqsOk.nil _,FnsOk.nil⟩) (fun _=>rfl) (by kernel_rfl) (by kernel_rfl) (fun x r h=>(f44.run x).trans h)
/-! f16: adit/nav.Toward -/
def f16.L1 (x:Int×Int×Int×Int×List Bool×List Int×Unit):Option (Int×Unit) :=
 it (X:=Int×Int×Int×Int×List Bool×List Int×Unit) (fun rec x =>
 bif decide (x.2.2.2.1 ≤ 4) then
 bif small x.1 then
 bif small x.2.1 then
 Option.bind (f45 x.1 x.2.1 x.2.2.2.1) fun y0 =>
 Option.bind (f44 y0.1 y0.2.1) fun y1 =>
 Option.bind (f43 y1.1 y1.2.1) fun y2 =>
 bif decide (y2.1 ≥ 0) then
 bif inRange y2.1 (List.length x.2.2.2.2.2.1) then
 bif inRange x.2.2.1 (List.length x.2.2.2.2.2.1) then
 bif List.getD x.2.2.2.2.2.1 (Int.toNat y2.1) 0 == IntKind.wrap .i64 (List.getD x.2.2.2.2.2.1 (Int.toNat x.2.2.1) 0 - 1) then
 bif inRange y2.1 (List.length x.2.2.2.2.1) then
 bif !List.getD x.2.2.2.2.1 (Int.toNat y2.1) Bool.false then
 some ((x.2.2.2.1,()))
 else
 rec (x.1,x.2.1,x.2.2.1,IntKind.wrap .i64 (x.2.2.2.1 + 1),x.2.2.2.2.1,x.2.2.2.2.2.1,())
 else
 none
 else
 rec (x.1,x.2.1,x.2.2.1,IntKind.wrap .i64 (x.2.2.2.1 + 1),x.2.2.2.2.1,x.2.2.2.2.2.1,())
 else
 none
 else
 none
 else
 rec (x.1,x.2.1,x.2.2.1,IntKind.wrap .i64 (x.2.2.2.1 + 1),x.2.2.2.2.1,x.2.2.2.2.2.1,())
 else
 none
 else
 none
 else
 some ((0,()))
 ) (100000000000000000000) (x)
def f16.L2 (x:List Int×Int×Int×List Int×Int×List E11×Int×Int×List Bool×Unit):Option (Int×Unit) :=
 it (X:=List Int×Int×Int×List Int×Int×List E11×Int×Int×List Bool×Unit) (fun rec x=>match x with
 | (v0,v1,v2,v3,v4,v5,v6,v7,v8,_) =>
 bif decide (v7 < v6) then
 bif inRange v7 (List.length v5) then
 Option.bind (f43 (List.getD v5 (Int.toNat v7) (0,0,0,0,0,0,0,0,0,0,0)).2.2.2.1 (List.getD v5 (Int.toNat v7) (0,0,0,0,0,0,0,0,0,0,0)).2.2.2.2.1) fun y0 =>
 bif (List.getD v5 (Int.toNat v7) (0,0,0,0,0,0,0,0,0,0,0)).1 != 0 then
 bif decide (y0.1 ≥ 0) then
 bif y0.1 != v4 then
 bif inRange y0.1 (List.length v8) then
 rec (v0,v1,v2,v3,v4,v5,v6,IntKind.wrap .i64 (v7 + 1),List.set v8 (Int.toNat y0.1) Bool.true,())
 else
 none
 else
 rec (v0,v1,v2,v3,v4,v5,v6,IntKind.wrap .i64 (v7 + 1),v8,())
 else
 rec (v0,v1,v2,v3,v4,v5,v6,IntKind.wrap .i64 (v7 + 1),v8,())
 else
 rec (v0,v1,v2,v3,v4,v5,v6,IntKind.wrap .i64 (v7 + 1),v8,())
 else
 none
 else
 Option.bind (f14 v0 v8 v3) fun y1 =>
 bif inRange v4 (List.length y1.1) then
 bif decide (List.getD y1.1 (Int.toNat v4) 0 < 1) then
 some ((0,()))
 else
 f16.L1 ((v1,v2,v4,1,v8,y1.1,()))
 else
 none
 ) (100000000000000000000) (x)
def f16 (a0:List Int) (a1:List E11) (a2:Int) (a3:Int) (a4:List Int):Option (Int×Unit) :=
 Option.bind (f43 a2 a3) fun y0 =>
 bif decide (y0.1 < 0) then
 some ((0,()))
 else
 bif decide ((0:Int) ≤ 0∧0 ≤ minI (↑(List.length a1):Int) 32∧minI (↑(List.length a1):Int) 32 ≤ (↑(List.length a1):Int)) then
 f16.L2 ((a0,a2,a3,a4,y0.1,List.drop 0 (List.take (Int.toNat (minI (↑(List.length a1):Int) 32)) a1),(↑(List.length (List.drop 0 (List.take (Int.toNat (minI (↑(List.length a1):Int) 32)) a1))):Int),0,List.replicate 384 Bool.false,()))
 else
 none
def f16.ins:Shape:=⟨[(0,r8),(1,rE),(2,n6),(3,n6),(4,.c (.row (.int .i64)))],[]⟩
def f16.outs:List Shape:=[⟨[(0,n6)],[]⟩]
def f16.S:FnSpec:=⟨f16.ins,f16.outs,[],fun x=>f16 x.1 x.2.1 x.2.2.1 x.2.2.2.1 x.2.2.2.2.1⟩
def f16.E (fuel:Nat):Env:=⟨tis,[(14,f14.S),(43,f43.S),(45,f45.S),(44,f44.S)],[],[],[(7,⟨[(0,r8),(2,n6),(3,n6),(4,.c (.row (.int .i64))),(11,n6),(12,.c (.own 0)),(29,rE),(30,n6),(31,n6)],[(0,.arr .bool)]⟩),(17,⟨[(2,n6),(3,n6),(11,n6),(12,.c (.own 0)),(16,.c (.own 1)),(17,n6)],[(0,.arr .bool),(1,.arr (.int .i64))]⟩)],[],0,[],fuel⟩
theorem f16.run:RunOk f16.E Go.Proofs.Tryz.f16 f16.S:=by intro x;kernel_rfl
theorem f16.sound:Sound Go.Proofs.Tryz.prog 16 f16.S:=sound_of_run (fun _=>f16.E 100000000000000000000) (by kernel_rfl) (by kernel_rfl) (by kernel_rfl) orders (fun _=>⟨tis_ok,EqsOk.nil _,(fc f14.sound (fc f43.sound (fc f45.sound (fc f44.sound FnsOk.nil))))⟩) (fun _=>rfl) (by kernel_rfl) (by kernel_rfl) (fun x r h=>(f16.run x).trans h)
end
end Go.Proofs.YthdgahpomhnidaaGreat.Run
/- Functions of the program as Lean functions: printed by a tool of this session (own work). -/
namespace Go.Proofs.YthdgahpomhnidaaGreat.Run
open Go Mx
set_option autoImplicit false
set_option linter.unusedVariables false
set_option maxRecDepth 100000
set_option maxHeartbeats 4000000
def tabB0:ByteArray:=ByteArray.mk (List.toArray (List.append (List.append [0,1,2,2,3,3,3,3,4,4,4,4,4,4,4,4,5,5,5,5,5,5,5,5,5,5,5,5,5,5,5,5,6,6,6,6,6,6,6,6,6,6,6,6,6,6,6,6,6,6,6,6,6,6,6,6,6,6,6,6,6,6,6,6] [7,7,7,7,7,7,7,7,7,7,7,7,7,7,7,7,7,7,7,7,7,7,7,7,7,7,7,7,7,7,7,7,7,7,7,7,7,7,7,7,7,7,7,7,7,7,7,7,7,7,7,7,7,7,7,7,7,7,7,7,7,7,7,7]) (List.append [8,8,8,8,8,8,8,8,8,8,8,8,8,8,8,8,8,8,8,8,8,8,8,8,8,8,8,8,8,8,8,8,8,8,8,8,8,8,8,8,8,8,8,8,8,8,8,8,8,8,8,8,8,8,8,8,8,8,8,8,8,8,8,8] [8,8,8,8,8,8,8,8,8,8,8,8,8,8,8,8,8,8,8,8,8,8,8,8,8,8,8,8,8,8,8,8,8,8,8,8,8,8,8,8,8,8,8,8,8,8,8,8,8,8,8,8,8,8,8,8,8,8,8,8,8,8,8,8])))
noncomputable section
def tyB2:TI:=⟨.int .i64,1,8,[.int .i64 0],some (.int .i64)⟩
def tyB3:TI:=⟨.int .i64,1,8,[.int .i64 0],some (.int .i64)⟩
def tyB4:TI:=⟨.bool,1,1,[.bool false],some .bool⟩
def tyB5:TI:=⟨.int .u8,1,1,[.int .u8 0],some (.int .u8)⟩
def tyB9:TI:=⟨.str,1,16,[.str ⟨#[]⟩],some .str⟩
def tyB23:TI:=⟨.slice 5,1,24,[.nils],some (.row (.int .u8))⟩
def tyB24:TI:=⟨.slice 45,1,24,[.nils],some (.row (.prod (.int .i64) (.prod (.int .i64) (.prod (.int .i64) (.prod (.int .i64) (.prod (.int .i64) (.prod (.int .i64) (.prod (.int .i64) (.prod (.int .i64) (.prod (.int .i64) (.prod (.int .i64) (.int .i64))))))))))))⟩
def tyB25:TI:=⟨.slice 106,1,24,[.nils],some (.row (.prod (.int .i64) (.prod (.int .i64) (.prod (.int .i64) (.int .i64)))))⟩
def tyB33:TI:=⟨.slice 3,1,24,[.nils],some (.row (.int .i64))⟩
def tyB41:TI:=⟨.arr 4 3,4,32,[.int .i64 0,.int .i64 0,.int .i64 0,.int .i64 0],some (.prod (.int .i64) (.prod (.int .i64) (.prod (.int .i64) (.int .i64))))⟩
def tyB43:TI:=⟨.struct [(0,2),(1,3),(2,3),(3,3),(4,23),(5,24),(6,25),(7,41)],11,136,[.int .i64 0,.int .i64 0,.int .i64 0,.int .i64 0,.nils,.nils,.nils,.int .i64 0,.int .i64 0,.int .i64 0,.int .i64 0],some (.prod (.int .i64) (.prod (.int .i64) (.prod (.int .i64) (.prod (.int .i64) (.prod (.row (.int .u8)) (.prod (.row (.prod (.int .i64) (.prod (.int .i64) (.prod (.int .i64) (.prod (.int .i64) (.prod (.int .i64) (.prod (.int .i64) (.prod (.int .i64) (.prod (.int .i64) (.prod (.int .i64) (.prod (.int .i64) (.int .i64)))))))))))) (.prod (.row (.prod (.int .i64) (.prod (.int .i64) (.prod (.int .i64) (.int .i64))))) (.prod (.int .i64) (.prod (.int .i64) (.prod (.int .i64) (.int .i64)))))))))))⟩
def tyB45:TI:=⟨.struct [(0,3),(1,3),(2,3),(3,3),(4,3),(5,3),(6,3),(7,3),(8,3),(9,3),(10,3)],11,88,[.int .i64 0,.int .i64 0,.int .i64 0,.int .i64 0,.int .i64 0,.int .i64 0,.int .i64 0,.int .i64 0,.int .i64 0,.int .i64 0,.int .i64 0],some (.prod (.int .i64) (.prod (.int .i64) (.prod (.int .i64) (.prod (.int .i64) (.prod (.int .i64) (.prod (.int .i64) (.prod (.int .i64) (.prod (.int .i64) (.prod (.int .i64) (.prod (.int .i64) (.int .i64)))))))))))⟩
def tyB50:TI:=⟨.struct [(0,3),(1,3),(2,4)],3,24,[.int .i64 0,.int .i64 0,.bool false],some (.prod (.int .i64) (.prod (.int .i64) .bool))⟩
def tyB66:TI:=⟨.int .u64,1,8,[.int .u64 0],some (.int .u64)⟩
def tyB99:TI:=⟨.struct [(0,43),(11,4),(12,4)],13,144,[.int .i64 0,.int .i64 0,.int .i64 0,.int .i64 0,.nils,.nils,.nils,.int .i64 0,.int .i64 0,.int .i64 0,.int .i64 0,.bool false,.bool false],some (.prod (.prod (.int .i64) (.prod (.int .i64) (.prod (.int .i64) (.prod (.int .i64) (.prod (.row (.int .u8)) (.prod (.row (.prod (.int .i64) (.prod (.int .i64) (.prod (.int .i64) (.prod (.int .i64) (.prod (.int .i64) (.prod (.int .i64) (.prod (.int .i64) (.prod (.int .i64) (.prod (.int .i64) (.prod (.int .i64) (.int .i64)))))))))))) (.prod (.row (.prod (.int .i64) (.prod (.int .i64) (.prod (.int .i64) (.int .i64))))) (.prod (.int .i64) (.prod (.int .i64) (.prod (.int .i64) (.int .i64))))))))))) (.prod .bool .bool))⟩
def tyB104:TI:=⟨.struct [(0,3)],1,8,[.int .i64 0],some (.int .i64)⟩
def tyB106:TI:=⟨.struct [(0,3),(1,3),(2,3),(3,3)],4,32,[.int .i64 0,.int .i64 0,.int .i64 0,.int .i64 0],some (.prod (.int .i64) (.prod (.int .i64) (.prod (.int .i64) (.int .i64))))⟩
def tyB198:TI:=⟨.struct [(0,3)],1,8,[.int .i64 0],some (.int .i64)⟩
def tyB207:TI:=⟨.int .u64,1,8,[.int .u64 0],some (.int .u64)⟩
def tisB:List (Nat×TI):=[(2,tyB2),(3,tyB3),(4,tyB4),(5,tyB5),(9,tyB9),(23,tyB23),(24,tyB24),(25,tyB25),(33,tyB33),(41,tyB41),(43,tyB43),(45,tyB45),(50,tyB50),(66,tyB66),(99,tyB99),(104,tyB104),(106,tyB106),(198,tyB198),(207,tyB207)]
theorem tyB2_ok:TIok Go.Proofs.Tryz.prog 2 tyB2:=⟨by kernel_rfl,by kernel_rfl,by kernel_rfl,by kernel_rfl,by kernel_rfl,by kernel_rfl,by kernel_rfl,by kernel_rfl⟩
theorem tyB3_ok:TIok Go.Proofs.Tryz.prog 3 tyB3:=⟨by kernel_rfl,by kernel_rfl,by kernel_rfl,by kernel_rfl,by kernel_rfl,by kernel_rfl,by kernel_rfl,by kernel_rfl⟩
theorem tyB4_ok:TIok Go.Proofs.Tryz.prog 4 tyB4:=⟨by kernel_rfl,by kernel_rfl,by kernel_rfl,by kernel_rfl,by kernel_rfl,by kernel_rfl,by kernel_rfl,by kernel_rfl⟩
theorem tyB5_ok:TIok Go.Proofs.Tryz.prog 5 tyB5:=⟨by kernel_rfl,by kernel_rfl,by kernel_rfl,by kernel_rfl,by kernel_rfl,by kernel_rfl,by kernel_rfl,by kernel_rfl⟩
theorem tyB9_ok:TIok Go.Proofs.Tryz.prog 9 tyB9:=⟨by kernel_rfl,by kernel_rfl,by kernel_rfl,by kernel_rfl,by kernel_rfl,by kernel_rfl,by kernel_rfl,by kernel_rfl⟩
theorem tyB23_ok:TIok Go.Proofs.Tryz.prog 23 tyB23:=⟨by kernel_rfl,by kernel_rfl,by kernel_rfl,by kernel_rfl,by kernel_rfl,by kernel_rfl,by kernel_rfl,by kernel_rfl⟩
theorem tyB24_ok:TIok Go.Proofs.Tryz.prog 24 tyB24:=⟨by kernel_rfl,by kernel_rfl,by kernel_rfl,by kernel_rfl,by kernel_rfl,by kernel_rfl,by kernel_rfl,by kernel_rfl⟩
theorem tyB25_ok:TIok Go.Proofs.Tryz.prog 25 tyB25:=⟨by kernel_rfl,by kernel_rfl,by kernel_rfl,by kernel_rfl,by kernel_rfl,by kernel_rfl,by kernel_rfl,by kernel_rfl⟩
theorem tyB33_ok:TIok Go.Proofs.Tryz.prog 33 tyB33:=⟨by kernel_rfl,by kernel_rfl,by kernel_rfl,by kernel_rfl,by kernel_rfl,by kernel_rfl,by kernel_rfl,by kernel_rfl⟩
theorem tyB41_ok:TIok Go.Proofs.Tryz.prog 41 tyB41:=⟨by kernel_rfl,by kernel_rfl,by kernel_rfl,by kernel_rfl,by kernel_rfl,by kernel_rfl,by kernel_rfl,by kernel_rfl⟩
theorem tyB43_ok:TIok Go.Proofs.Tryz.prog 43 tyB43:=⟨by kernel_rfl,by kernel_rfl,by kernel_rfl,by kernel_rfl,by kernel_rfl,by kernel_rfl,by kernel_rfl,by kernel_rfl⟩
theorem tyB45_ok:TIok Go.Proofs.Tryz.prog 45 tyB45:=⟨by kernel_rfl,by kernel_rfl,by kernel_rfl,by kernel_rfl,by kernel_rfl,by kernel_rfl,by kernel_rfl,by kernel_rfl⟩
theorem tyB50_ok:TIok Go.Proofs.Tryz.prog 50 tyB50:=⟨by kernel_rfl,by kernel_rfl,by kernel_rfl,by kernel_rfl,by kernel_rfl,by kernel_rfl,by kernel_rfl,by kernel_rfl⟩
theorem tyB66_ok:TIok Go.Proofs.Tryz.prog 66 tyB66:=⟨by kernel_rfl,by kernel_rfl,by kernel_rfl,by kernel_rfl,by kernel_rfl,by kernel_rfl,by kernel_rfl,by kernel_rfl⟩
theorem tyB99_ok:TIok Go.Proofs.Tryz.prog 99 tyB99:=⟨by kernel_rfl,by kernel_rfl,by kernel_rfl,by kernel_rfl,by kernel_rfl,by kernel_rfl,by kernel_rfl,by kernel_rfl⟩
theorem tyB104_ok:TIok Go.Proofs.Tryz.prog 104 tyB104:=⟨by kernel_rfl,by kernel_rfl,by kernel_rfl,by kernel_rfl,by kernel_rfl,by kernel_rfl,by kernel_rfl,by kernel_rfl⟩
theorem tyB106_ok:TIok Go.Proofs.Tryz.prog 106 tyB106:=⟨by kernel_rfl,by kernel_rfl,by kernel_rfl,by kernel_rfl,by kernel_rfl,by kernel_rfl,by kernel_rfl,by kernel_rfl⟩
theorem tyB198_ok:TIok Go.Proofs.Tryz.prog 198 tyB198:=⟨by kernel_rfl,by kernel_rfl,by kernel_rfl,by kernel_rfl,by kernel_rfl,by kernel_rfl,by kernel_rfl,by kernel_rfl⟩
theorem tyB207_ok:TIok Go.Proofs.Tryz.prog 207 tyB207:=⟨by kernel_rfl,by kernel_rfl,by kernel_rfl,by kernel_rfl,by kernel_rfl,by kernel_rfl,by kernel_rfl,by kernel_rfl⟩
theorem tisB_ok:TIs Go.Proofs.Tryz.prog tisB:=(TIs.cons tyB2_ok (TIs.cons tyB3_ok (TIs.cons tyB4_ok (TIs.cons tyB5_ok (TIs.cons tyB9_ok (TIs.cons tyB23_ok (TIs.cons tyB24_ok (TIs.cons tyB25_ok (TIs.cons tyB33_ok (TIs.cons tyB41_ok (TIs.cons tyB43_ok (TIs.cons tyB45_ok (TIs.cons tyB50_ok (TIs.cons tyB66_ok (TIs.cons tyB99_ok (TIs.cons tyB104_ok (TIs.cons tyB106_ok (TIs.cons tyB198_ok (TIs.cons tyB207_ok (TIs.nil _))))))))))))))))))))
theorem ordersB:Go.Proofs.Tryz.prog.follows .mixedOrders = true:=by kernel_rfl
/-! f212: (adit/minds.robot).wants -/
def f212.L1 (x:Bool×Int×Int×Int×Int×Int×List Int×List E11×List (Int×Int×Int×Int)×Int×Int×Int×Int×Int×Int×Int×Int×Int×Int×Int×Int×Int×Int×Int×Unit):Option (Int×Unit) :=
 it (X:=Bool×Int×Int×Int×Int×Int×List Int×List E11×List (Int×Int×Int×Int)×Int×Int×Int×Int×Int×Int×Int×Int×Int×Int×Int×Int×Int×Int×Int×Unit) (fun rec x=>match x with
 | (v0,v1,v2,v3,v4,v5,v6,v7,v8,v9,v10,v11,v12,v13,v14,v15,v16,v17,v18,v19,v20,v21,v22,v23,_) =>
 bif decide (v1 ≤ 4) then
 Option.bind (f214 v13 v14 v15 v16 v17 v18 v19 v20 v21 v22 v23 v1) fun y0 =>
 Option.bind (f96 v7 y0.1 y0.2.1) fun y1 =>
 bif decide (y1.1 ≥ 0) then
 bif inRange y1.1 (List.length v7) then
 bif (List.getD v7 (Int.toNat y1.1) (0,0,0,0,0,0,0,0,0,0,0)).1 != 1 then
 some ((v1,()))
 else
 rec (v0,IntKind.wrap .i64 (v1 + 1),v2,v3,v4,v5,v6,v7,v8,v9,v10,v11,v12,v13,v14,v15,v16,v17,v18,v19,v20,v21,v22,v23,())
 else
 none
 else
 rec (v0,IntKind.wrap .i64 (v1 + 1),v2,v3,v4,v5,v6,v7,v8,v9,v10,v11,v12,v13,v14,v15,v16,v17,v18,v19,v20,v21,v22,v23,())
 else
 Option.bind (f215 v2 v3 v4 v5 v6 v7 v8 v9 v10 v11 v12 v16 v17 v0) fun y2 =>
 bif y2.1 then
 some ((5,()))
 else
 Option.bind (f95 v6 v16 v17) fun y3 =>
 bif y3.1 == 4 then
 some ((9,()))
 else
 Option.bind (f13 v6 4) fun y4 =>
 Option.bind (f16 v6 v7 v16 v17 [y4.1]) fun y5 =>
 some ((y5.1,()))
 ) (100000000000000000000) (x)
def f212 (a0:Int) (a1:Int) (a2:Int) (a3:Int) (a4:Int) (a5:List Int) (a6:List E11) (a7:List (Int×Int×Int×Int)) (a8:Int) (a9:Int) (a10:Int) (a11:Int):Option (Int×Unit) :=
 Option.bind (f97 a6 a0) fun y0 =>
 bif decide (y0.1 < 0) then
 some ((0,()))
 else
 bif inRange y0.1 (List.length a6) then
 Option.bind (f213 a1 a2 a3 a4 a5 a6 a7 a8 a9 a10 a11 a0) fun y1 =>
 Option.bind (α:=Bool×Int×Int×Int×Int×List Int×List E11×List (Int×Int×Int×Int)×Int×Int×Int×Int×Int×Int×Int×Int×Int×Int×Int×Int×Int×Int×Int×Unit ⊕ Int×Unit) (
 bif y1.1 then
 bif decide ((List.getD a6 (Int.toNat y0.1) (0,0,0,0,0,0,0,0,0,0,0)).2.2.2.2.2.1 ≤ IntKind.wrap .i64 (Int.tdiv (List.getD a6 (Int.toNat y0.1) (0,0,0,0,0,0,0,0,0,0,0)).2.2.2.2.2.2.1 3)) then
 some (Sum.inr (6,()))
 else
 some (Sum.inl (y1.2.1,a1,a2,a3,a4,a5,a6,a7,a8,a9,a10,a11,(List.getD a6 (Int.toNat y0.1) (0,0,0,0,0,0,0,0,0,0,0)).1,(List.getD a6 (Int.toNat y0.1) (0,0,0,0,0,0,0,0,0,0,0)).2.1,(List.getD a6 (Int.toNat y0.1) (0,0,0,0,0,0,0,0,0,0,0)).2.2.1,(List.getD a6 (Int.toNat y0.1) (0,0,0,0,0,0,0,0,0,0,0)).2.2.2.1,(List.getD a6 (Int.toNat y0.1) (0,0,0,0,0,0,0,0,0,0,0)).2.2.2.2.1,(List.getD a6 (Int.toNat y0.1) (0,0,0,0,0,0,0,0,0,0,0)).2.2.2.2.2.1,(List.getD a6 (Int.toNat y0.1) (0,0,0,0,0,0,0,0,0,0,0)).2.2.2.2.2.2.1,(List.getD a6 (Int.toNat y0.1) (0,0,0,0,0,0,0,0,0,0,0)).2.2.2.2.2.2.2.1,(List.getD a6 (Int.toNat y0.1) (0,0,0,0,0,0,0,0,0,0,0)).2.2.2.2.2.2.2.2.1,(List.getD a6 (Int.toNat y0.1) (0,0,0,0,0,0,0,0,0,0,0)).2.2.2.2.2.2.2.2.2.1,(List.getD a6 (Int.toNat y0.1) (0,0,0,0,0,0,0,0,0,0,0)).2.2.2.2.2.2.2.2.2.2,()))
 else
 some (Sum.inl (y1.2.1,a1,a2,a3,a4,a5,a6,a7,a8,a9,a10,a11,(List.getD a6 (Int.toNat y0.1) (0,0,0,0,0,0,0,0,0,0,0)).1,(List.getD a6 (Int.toNat y0.1) (0,0,0,0,0,0,0,0,0,0,0)).2.1,(List.getD a6 (Int.toNat y0.1) (0,0,0,0,0,0,0,0,0,0,0)).2.2.1,(List.getD a6 (Int.toNat y0.1) (0,0,0,0,0,0,0,0,0,0,0)).2.2.2.1,(List.getD a6 (Int.toNat y0.1) (0,0,0,0,0,0,0,0,0,0,0)).2.2.2.2.1,(List.getD a6 (Int.toNat y0.1) (0,0,0,0,0,0,0,0,0,0,0)).2.2.2.2.2.1,(List.getD a6 (Int.toNat y0.1) (0,0,0,0,0,0,0,0,0,0,0)).2.2.2.2.2.2.1,(List.getD a6 (Int.toNat y0.1) (0,0,0,0,0,0,0,0,0,0,0)).2.2.2.2.2.2.2.1,(List.getD a6 (Int.toNat y0.1) (0,0,0,0,0,0,0,0,0,0,0)).2.2.2.2.2.2.2.2.1,(List.getD a6 (Int.toNat y0.1) (0,0,0,0,0,0,0,0,0,0,0)).2.2.2.2.2.2.2.2.2.1,(List.getD a6 (Int.toNat y0.1) (0,0,0,0,0,0,0,0,0,0,0)).2.2.2.2.2.2.2.2.2.2,()))
 ) fun y2 =>
 Sum.elim (fun y3=>match y3 with
 | (u3_0,u3_1,u3_2,u3_3,u3_4,u3_5,u3_6,u3_7,u3_8,u3_9,u3_10,u3_11,u3_12,u3_13,u3_14,u3_15,u3_16,u3_17,u3_18,u3_19,u3_20,u3_21,u3_22,_) =>
 f212.L1 ((u3_0,1,u3_1,u3_2,u3_3,u3_4,u3_5,u3_6,u3_7,u3_8,u3_9,u3_10,u3_11,u3_12,u3_13,u3_14,u3_15,u3_16,u3_17,u3_18,u3_19,u3_20,u3_21,u3_22,()))
 ) (fun z4 =>
 some (z4)
 ) (y2)
 else
 none
def f212.ins:Shape:=⟨[(0,.agg [.int .i64]),(1,wS)],[]⟩
def f212.outs:List Shape:=[⟨[(0,n6)],[]⟩]
def f212.S:FnSpec:=⟨f212.ins,f212.outs,[],fun x=>f212 x.1 x.2.1 x.2.2.1 x.2.2.2.1 x.2.2.2.2.1 x.2.2.2.2.2.1 x.2.2.2.2.2.2.1 x.2.2.2.2.2.2.2.1 x.2.2.2.2.2.2.2.2.1 x.2.2.2.2.2.2.2.2.2.1 x.2.2.2.2.2.2.2.2.2.2.1 x.2.2.2.2.2.2.2.2.2.2.2.1⟩
def f212.E (fuel:Nat):Env:=⟨tisB,[(13,f13.S),(97,f97.S),(96,f96.S),(213,f213.S),(214,f214.S),(215,f215.S),(95,f95.S),(16,f16.S)],[],[(9,⟨[(3,.c (.ptr 0 0)),(6,.c (.ptr 1 0)),(8,.c (.bool))],[(0,.box [.int .i64,.int .i64,.int .i64,.int .i64,.row (.int .u8),.row tE,.row tI,.int .i64,.int .i64,.int .i64,.int .i64]),(1,.box [.int .i64,.int .i64,.int .i64,.int .i64,.int .i64,.int .i64,.int .i64,.int .i64,.int .i64,.int .i64,.int .i64])]⟩)],[(10,⟨[(3,.c (.ptr 0 0)),(6,.c (.ptr 1 0)),(8,.c (.bool)),(9,n6)],[(0,.box [.int .i64,.int .i64,.int .i64,.int .i64,.row (.int .u8),.row tE,.row tI,.int .i64,.int .i64,.int .i64,.int .i64]),(1,.box [.int .i64,.int .i64,.int .i64,.int .i64,.int .i64,.int .i64,.int .i64,.int .i64,.int .i64,.int .i64,.int .i64])]⟩)],[],0,[],fuel⟩
theorem f212.run:RunOk f212.E Go.Proofs.Tryz.f212 f212.S:=by intro x;kernel_rfl
theorem f212.sound:Sound Go.Proofs.Tryz.prog 212 f212.S:=sound_of_run (fun _=>f212.E 100000000000000000000) (by kernel_rfl) (by kernel_rfl) (by kernel_rfl) ordersB (fun _=>⟨tisB_ok,EqsOk.nil _,(fc f13.sound (fc f97.sound (fc f96.sound (fc f213.sound (fc f214.sound (fc f215.sound (fc f95.sound (fc f16.sound FnsOk.nil))))))))⟩) (fun _=>rfl) (by kernel_rfl) (by kernel_rfl) (fun x r h=>(f212.run x).trans h)
/-! f22: adit/minds.Robot -/
def f22 (a0:Int) (a1:Int) (a2:Int) (a3:Int) (a4:List Int) (a5:List E11) (a6:List (Int×Int×Int×Int)) (a7:Int) (a8:Int) (a9:Int) (a10:Int) (a11:Int):Option (Int×Unit):=f212 a11 a0 a1 a2 a3 a4 a5 a6 a7 a8 a9 a10
def f22.S:FnSpec:=⟨mindIns,wantOuts,[],fun x=>f22 x.1 x.2.1 x.2.2.1 x.2.2.2.1 x.2.2.2.2.1 x.2.2.2.2.2.1 x.2.2.2.2.2.2.1 x.2.2.2.2.2.2.2.1 x.2.2.2.2.2.2.2.2.1 x.2.2.2.2.2.2.2.2.2.1 x.2.2.2.2.2.2.2.2.2.2.1 x.2.2.2.2.2.2.2.2.2.2.2.1⟩
def f22.E:Env:=⟨tisB,[],[],[],[],[],0,[],1⟩
theorem f22.ask : AskParts f22.E ((Go.Proofs.Tryz.f61.body).getD .skip) "adit/minds.wants" 43 := ⟨by kernel_rfl, by kernel_rfl, by kernel_rfl, by kernel_rfl, by unfold IsOp; kernel_rfl, by unfold IsOp; kernel_rfl, by intros; kernel_rfl, by intros; kernel_rfl, by intros; kernel_rfl⟩
theorem f22.parts:MindParts f22.E ((Go.Proofs.Tryz.f22.body).getD .skip) 104 61 43 158:=⟨by kernel_rfl,by kernel_rfl,by kernel_rfl,by unfold IsOp;kernel_rfl,by unfold IsOp;kernel_rfl,by intros;kernel_rfl,by intros;kernel_rfl,by intros;kernel_rfl,by intros;kernel_rfl⟩
theorem f22.sound : Sound Go.Proofs.Tryz.prog 22 f22.S := mind_sound (fn := Go.Proofs.Tryz.f22) (E := f22.E) (c := ((Go.Proofs.Tryz.f22.body).getD .skip)) (tS := 104) (fa := 61) (tW := 43) (tF := 158) (by kernel_rfl) (by kernel_rfl) (by kernel_rfl) (by kernel_rfl) (by kernel_rfl) f22.parts ⟨tisB_ok, EqsOk.nil _, FnsOk.nil⟩ rfl (by intros; kernel_rfl) (F := (fun n x => f212 n x.1 x.2.1 x.2.2.1 x.2.2.2.1 x.2.2.2.2.1 x.2.2.2.2.2.1 x.2.2.2.2.2.2.1 x.2.2.2.2.2.2.2.1 x.2.2.2.2.2.2.2.2.1 x.2.2.2.2.2.2.2.2.2.1 x.2.2.2.2.2.2.2.2.2.2.1)) (fun h _ _ _ hV hro => ask_tells (fn := Go.Proofs.Tryz.f61) (E := f22.E) (c := ((Go.Proofs.Tryz.f61.body).getD .skip)) (name := "adit/minds.wants") (tW := 43) (tS := 104) (fw := 212) (by kernel_rfl) (by kernel_rfl) (by kernel_rfl) (by kernel_rfl) (by kernel_rfl) f22.ask ⟨tisB_ok, EqsOk.nil _, FnsOk.nil⟩ rfl (by intros; kernel_rfl) (F := (fun n x => f212 n x.1 x.2.1 x.2.2.1 x.2.2.2.1 x.2.2.2.2.1 x.2.2.2.2.2.1 x.2.2.2.2.2.2.1 x.2.2.2.2.2.2.2.1 x.2.2.2.2.2.2.2.2.1 x.2.2.2.2.2.2.2.2.2.1 x.2.2.2.2.2.2.2.2.2.2.1)) f212.sound h hV hro)
/-! f114: adit/fight.is -/
def f114 (a0:Int) (a1:Int) (a2:Int) (a3:Int) (a4:List Int) (a5:List E11) (a6:List (Int×Int×Int×Int)) (a7:Int) (a8:Int) (a9:Int) (a10:Int) (a11:Int):Option (Bool×Unit) :=
 bif decide (a11 ≥ 0) then
 bif decide (a11 < (↑(List.length a5):Int)) then
 bif decide (a11 < 32) then
 bif inRange a11 (List.length a5) then
 some (((List.getD a5 (Int.toNat a11) (0,0,0,0,0,0,0,0,0,0,0)).1 != 0,()))
 else
 none
 else
 some ((Bool.false,()))
 else
 some ((Bool.false,()))
 else
 some ((Bool.false,()))
def f114.ins:Shape:=⟨[(0,wS),(1,n6)],[]⟩
def f114.outs:List Shape:=[⟨[(0,.c (.bool))],[]⟩]
def f114.S:FnSpec:=⟨f114.ins,f114.outs,[],fun x=>f114 x.1 x.2.1 x.2.2.1 x.2.2.2.1 x.2.2.2.2.1 x.2.2.2.2.2.1 x.2.2.2.2.2.2.1 x.2.2.2.2.2.2.2.1 x.2.2.2.2.2.2.2.2.1 x.2.2.2.2.2.2.2.2.2.1 x.2.2.2.2.2.2.2.2.2.2.1 x.2.2.2.2.2.2.2.2.2.2.2.1⟩
def f114.E (fuel:Nat):Env:=⟨tisB,[],[],[],[],[],0,[],fuel⟩
theorem f114.run:RunOk f114.E Go.Proofs.Tryz.f114 f114.S:=by intro x;kernel_rfl
theorem f114.sound:Sound Go.Proofs.Tryz.prog 114 f114.S:=sound_of_run (fun _=>f114.E 100000000000000000000) (by kernel_rfl) (by kernel_rfl) (by kernel_rfl) ordersB (fun _=>⟨tisB_ok,EqsOk.nil _,FnsOk.nil⟩) (fun _=>rfl) (by kernel_rfl) (by kernel_rfl) (fun x r h=>(f114.run x).trans h)
/-! f113: adit/fight.twin -/
def f113 (a0:Int) (a1:Int) (a2:Int) (a3:Int) (a4:List Int) (a5:List E11) (a6:List (Int×Int×Int×Int)) (a7:Int) (a8:Int) (a9:Int) (a10:Int):Option (Int×Int×Int×Int×Int×Int×Int×Int×List Int×List E11×List (Int×Int×Int×Int)×Unit) :=
 Option.bind (f103 a4) fun y0 =>
 Option.bind (f104 a5) fun y1 =>
 Option.bind (f105 a6) fun y2 =>
 some ((a0,a1,a2,a3,a7,a8,a9,a10,y0.1,y1.1,y2.1,()))
def f113.ins:Shape:=⟨[(0,wS)],[]⟩
def f113.outs:List Shape:=[⟨[(0,.agg [.int .i64,.int .i64,.int .i64,.int .i64,.own 0,.own 1,.own 2,.int .i64,.int .i64,.int .i64,.int .i64])],[(0,.arr (.int .u8)),(1,.arr tE),(2,.arr tI)]⟩]
def f113.S:FnSpec:=⟨f113.ins,f113.outs,[],fun x=>f113 x.1 x.2.1 x.2.2.1 x.2.2.2.1 x.2.2.2.2.1 x.2.2.2.2.2.1 x.2.2.2.2.2.2.1 x.2.2.2.2.2.2.2.1 x.2.2.2.2.2.2.2.2.1 x.2.2.2.2.2.2.2.2.2.1 x.2.2.2.2.2.2.2.2.2.2.1⟩
def f113.E (fuel:Nat):Env:=⟨tisB,[(104,f104.S),(105,f105.S),(103,f103.S)],[],[],[],[],0,[],fuel⟩
theorem f113.run:RunOk f113.E Go.Proofs.Tryz.f113 f113.S:=by intro x;kernel_rfl
theorem f113.sound:Sound Go.Proofs.Tryz.prog 113 f113.S:=sound_of_run (fun _=>f113.E 100000000000000000000) (by kernel_rfl) (by kernel_rfl) (by kernel_rfl) ordersB (fun _=>⟨tisB_ok,EqsOk.nil _,(fc f104.sound (fc f105.sound (fc f103.sound FnsOk.nil)))⟩) (fun _=>rfl) (by kernel_rfl) (by kernel_rfl) (fun x r h=>(f113.run x).trans h)
/-! f190: adit/goods.find$1 -/
def f190 (a0:Int) (a1:Int) (a2:Int) (a3:Int) (a4:Int) (a5:Int) (a6:Int):Option (Bool×Unit) :=
 bif a0 != 0 then
 bif a1 == a4 then
 bif a2 == a5 then
 some ((a3 == a6,()))
 else
 some ((Bool.false,()))
 else
 some ((Bool.false,()))
 else
 some ((Bool.false,()))
def f190.ins:Shape:=⟨[(0,.agg [.int .i64,.int .i64,.int .i64,.int .i64]),(1,.c (.bptr (.int .i64))),(2,.c (.bptr (.int .i64))),(3,.c (.bptr (.int .i64)))],[]⟩
def f190.outs:List Shape:=[⟨[(0,.c (.bool))],[]⟩]
def f190.S:FnSpec:=⟨f190.ins,f190.outs,[],fun x=>f190 x.1 x.2.1 x.2.2.1 x.2.2.2.1 x.2.2.2.2.1 x.2.2.2.2.2.1 x.2.2.2.2.2.2.1⟩
def f190.E (fuel:Nat):Env:=⟨tisB,[],[],[],[],[],0,[],fuel⟩
theorem f190.run:RunOk f190.E Go.Proofs.Tryz.f190 f190.S:=by intro x;kernel_rfl
theorem f190.sound:Sound Go.Proofs.Tryz.prog 190 f190.S:=sound_of_run (fun _=>f190.E 100000000000000000000) (by kernel_rfl) (by kernel_rfl) (by kernel_rfl) ordersB (fun _=>⟨tisB_ok,EqsOk.nil _,FnsOk.nil⟩) (fun _=>rfl) (by kernel_rfl) (by kernel_rfl) (fun x r h=>(f190.run x).trans h)
/-! f189: slices.IndexFunc[[]adit/api.Item,adit/api.Item] -/
def f189.L1 (x:List (Int×Int×Int×Int)×Int×Int×Int×Int×Int×Unit):Option (Int×Int×Int×Int×Unit) :=
 it (X:=List (Int×Int×Int×Int)×Int×Int×Int×Int×Int×Unit) (fun rec x =>
 bif decide (x.2.2.1 < x.2.1) then
 bif inRange x.2.2.1 (List.length x.1) then
 Option.bind (f190 (List.getD x.1 (Int.toNat x.2.2.1) (0,0,0,0)).1 (List.getD x.1 (Int.toNat x.2.2.1) (0,0,0,0)).2.1 (List.getD x.1 (Int.toNat x.2.2.1) (0,0,0,0)).2.2.1 (List.getD x.1 (Int.toNat x.2.2.1) (0,0,0,0)).2.2.2 x.2.2.2.1 x.2.2.2.2.1 x.2.2.2.2.2.1) fun y0 =>
 bif y0.1 then
 some ((x.2.2.1,x.2.2.2.1,x.2.2.2.2.1,x.2.2.2.2.2.1,()))
 else
 rec (x.1,x.2.1,IntKind.wrap .i64 (x.2.2.1 + 1),x.2.2.2.1,x.2.2.2.2.1,x.2.2.2.2.2.1,())
 else
 none
 else
 some ((-1,x.2.2.2.1,x.2.2.2.2.1,x.2.2.2.2.2.1,()))
 ) (100000000000000000000) (x)
def f189 (a0:List (Int×Int×Int×Int)) (a1:Int) (a2:Int) (a3:Int):Option (Int×Int×Int×Int×Unit) :=
 f189.L1 ((a0,(↑(List.length a0):Int),0,a1,a2,a3,()))
def f189.ins:Shape:=⟨[(0,rI),(1,.c (.fn 190 [0,1,2]))],[(0,.box [.int .i64]),(1,.box [.int .i64]),(2,.box [.int .i64])]⟩
def f189.outs:List Shape:=[⟨[(0,n6)],[(0,.box [.int .i64]),(1,.box [.int .i64]),(2,.box [.int .i64])]⟩]
def f189.S:FnSpec:=⟨f189.ins,f189.outs,[0,1,2],fun x=>f189 x.1 x.2.1 x.2.2.1 x.2.2.2.1⟩
def f189.E (fuel:Nat):Env:=⟨tisB,[(190,f190.S)],[],[],[(3,⟨[(0,rI),(1,.c (.fn 190 [0,1,2])),(7,n6),(8,n6)],[(0,.box [.int .i64]),(1,.box [.int .i64]),(2,.box [.int .i64])]⟩)],[],3,[0,1,2],fuel⟩
theorem f189.run:RunOk f189.E Go.Proofs.Tryz.f189 f189.S:=by intro x;kernel_rfl
theorem f189.sound:Sound Go.Proofs.Tryz.prog 189 f189.S:=sound_of_run (fun _=>f189.E 100000000000000000000) (by kernel_rfl) (by kernel_rfl) (by kernel_rfl) ordersB (fun _=>⟨tisB_ok,EqsOk.nil _,(fc f190.sound FnsOk.nil)⟩) (fun _=>rfl) (by kernel_rfl) (by kernel_rfl) (fun x r h=>(f189.run x).trans h)
/-! f180: adit/goods.find -/
def f180 (a0:Int) (a1:Int) (a2:Int) (a3:Int) (a4:List Int) (a5:List E11) (a6:List (Int×Int×Int×Int)) (a7:Int) (a8:Int) (a9:Int) (a10:Int) (a11:Int) (a12:Int) (a13:Int):Option (Int×Unit) :=
 Option.bind (f189 a6 a11 a12 a13) fun y0 =>
 some ((y0.1,()))
def f180.ins:Shape:=⟨[(0,wS),(1,n6),(2,n6),(3,n6)],[]⟩
def f180.outs:List Shape:=[⟨[(0,n6)],[]⟩]
def f180.S:FnSpec:=⟨f180.ins,f180.outs,[],fun x=>f180 x.1 x.2.1 x.2.2.1 x.2.2.2.1 x.2.2.2.2.1 x.2.2.2.2.2.1 x.2.2.2.2.2.2.1 x.2.2.2.2.2.2.2.1 x.2.2.2.2.2.2.2.2.1 x.2.2.2.2.2.2.2.2.2.1 x.2.2.2.2.2.2.2.2.2.2.1 x.2.2.2.2.2.2.2.2.2.2.2.1 x.2.2.2.2.2.2.2.2.2.2.2.2.1 x.2.2.2.2.2.2.2.2.2.2.2.2.2.1⟩
def f180.E (fuel:Nat):Env:=⟨tisB,[(189,f189.S)],[],[],[],[],0,[],fuel⟩
theorem f180.run:RunOk f180.E Go.Proofs.Tryz.f180 f180.S:=by intro x;kernel_rfl
theorem f180.sound:Sound Go.Proofs.Tryz.prog 180 f180.S:=sound_of_run (fun _=>f180.E 100000000000000000000) (by kernel_rfl) (by kernel_rfl) (by kernel_rfl) ordersB (fun _=>⟨tisB_ok,EqsOk.nil _,(fc f189.sound FnsOk.nil)⟩) (fun _=>rfl) (by kernel_rfl) (by kernel_rfl) (fun x r h=>(f180.run x).trans h)
/-! f192: adit/goods.Bonus -/
def f192 (a0:Int) (a1:Int) (a2:Int) (a3:Int) (a4:List Int) (a5:List E11) (a6:List (Int×Int×Int×Int)) (a7:Int) (a8:Int) (a9:Int) (a10:Int) (a11:Int):Option (Int×Int×Unit) :=
 Option.bind (α:=Int×Int×Int×Int×Int×Int×Int×List Int×List E11×List (Int×Int×Int×Int)×Int×Int×Int×Int×Unit ⊕ Int×Int×Unit) (
 Option.bind (f180 a0 a1 a2 a3 a4 a5 a6 a7 a8 a9 a10 3 a11 0) fun y7 =>
 bif decide (y7.1 ≥ 0) then
 some (Sum.inl (a11,3,0,a0,a1,a2,a3,a4,a5,a6,a7,a8,a9,a10,()))
 else
 some (Sum.inl (a11,0,0,a0,a1,a2,a3,a4,a5,a6,a7,a8,a9,a10,()))
 ) fun y0 =>
 Sum.elim (fun y1=>match y1 with
 | (u1_0,u1_1,u1_2,u1_3,u1_4,u1_5,u1_6,u1_7,u1_8,u1_9,u1_10,u1_11,u1_12,u1_13,_) =>
 Option.bind (α:=Int×Int×Unit ⊕ Int×Int×Unit) (
 Option.bind (f180 u1_3 u1_4 u1_5 u1_6 u1_7 u1_8 u1_9 u1_10 u1_11 u1_12 u1_13 3 u1_0 1) fun y6 =>
 bif decide (y6.1 ≥ 0) then
 some (Sum.inl (u1_1,2,()))
 else
 some (Sum.inl (u1_1,u1_2,()))
 ) fun y3 =>
 Sum.elim (fun y4 =>
 some ((y4.1,y4.2.1,()))
 ) (fun z5 =>
 some (z5)
 ) (y3)
 ) (fun z2 =>
 some (z2)
 ) (y0)
def f192.ins:Shape:=⟨[(0,wS),(1,n6)],[]⟩
def f192.outs:List Shape:=[⟨[(0,n6),(1,n6)],[]⟩]
def f192.S:FnSpec:=⟨f192.ins,f192.outs,[],fun x=>f192 x.1 x.2.1 x.2.2.1 x.2.2.2.1 x.2.2.2.2.1 x.2.2.2.2.2.1 x.2.2.2.2.2.2.1 x.2.2.2.2.2.2.2.1 x.2.2.2.2.2.2.2.2.1 x.2.2.2.2.2.2.2.2.2.1 x.2.2.2.2.2.2.2.2.2.2.1 x.2.2.2.2.2.2.2.2.2.2.2.1⟩
def f192.E (fuel:Nat):Env:=⟨tisB,[(180,f180.S)],[],[(5,⟨[(1,n6),(2,.c (.ptr 0 0)),(6,n6),(7,n6)],[(0,.box [.int .i64,.int .i64,.int .i64,.int .i64,.row (.int .u8),.row tE,.row tI,.int .i64,.int .i64,.int .i64,.int .i64])]⟩),(7,⟨[(6,n6),(7,n6)],[]⟩)],[],[],0,[],fuel⟩
theorem f192.run:RunOk f192.E Go.Proofs.Tryz.f192 f192.S:=by intro x;kernel_rfl
theorem f192.sound:Sound Go.Proofs.Tryz.prog 192 f192.S:=sound_of_run (fun _=>f192.E 100000000000000000000) (by kernel_rfl) (by kernel_rfl) (by kernel_rfl) ordersB (fun _=>⟨tisB_ok,EqsOk.nil _,(fc f180.sound FnsOk.nil)⟩) (fun _=>rfl) (by kernel_rfl) (by kernel_rfl) (fun x r h=>(f192.run x).trans h)
/-! f182: adit/fight.strength -/
def f182 (a0:Int) (a1:Int) (a2:Int) (a3:Int) (a4:List Int) (a5:List E11) (a6:List (Int×Int×Int×Int)) (a7:Int) (a8:Int) (a9:Int) (a10:Int) (a11:Int):Option (Int×Int×Unit) :=
 bif inRange a11 (List.length a5) then
 Option.bind (α:=Int×Int×Int×Int×Int×Int×Int×Int×Int×Int×Int×Int×Int×Unit ⊕ Int×Int×Unit) (
 bif (List.getD a5 (Int.toNat a11) (0,0,0,0,0,0,0,0,0,0,0)).1 == 1 then
 Option.bind (f192 a0 a1 a2 a3 a4 a5 a6 a7 a8 a9 a10 (List.getD a5 (Int.toNat a11) (0,0,0,0,0,0,0,0,0,0,0)).2.2.1) fun y3 =>
 some (Sum.inl (y3.1,y3.2.1,(List.getD a5 (Int.toNat a11) (0,0,0,0,0,0,0,0,0,0,0)).1,(List.getD a5 (Int.toNat a11) (0,0,0,0,0,0,0,0,0,0,0)).2.1,(List.getD a5 (Int.toNat a11) (0,0,0,0,0,0,0,0,0,0,0)).2.2.1,(List.getD a5 (Int.toNat a11) (0,0,0,0,0,0,0,0,0,0,0)).2.2.2.1,(List.getD a5 (Int.toNat a11) (0,0,0,0,0,0,0,0,0,0,0)).2.2.2.2.1,(List.getD a5 (Int.toNat a11) (0,0,0,0,0,0,0,0,0,0,0)).2.2.2.2.2.1,(List.getD a5 (Int.toNat a11) (0,0,0,0,0,0,0,0,0,0,0)).2.2.2.2.2.2.1,(List.getD a5 (Int.toNat a11) (0,0,0,0,0,0,0,0,0,0,0)).2.2.2.2.2.2.2.1,(List.getD a5 (Int.toNat a11) (0,0,0,0,0,0,0,0,0,0,0)).2.2.2.2.2.2.2.2.1,(List.getD a5 (Int.toNat a11) (0,0,0,0,0,0,0,0,0,0,0)).2.2.2.2.2.2.2.2.2.1,(List.getD a5 (Int.toNat a11) (0,0,0,0,0,0,0,0,0,0,0)).2.2.2.2.2.2.2.2.2.2,()))
 else
 some (Sum.inl (0,0,(List.getD a5 (Int.toNat a11) (0,0,0,0,0,0,0,0,0,0,0)).1,(List.getD a5 (Int.toNat a11) (0,0,0,0,0,0,0,0,0,0,0)).2.1,(List.getD a5 (Int.toNat a11) (0,0,0,0,0,0,0,0,0,0,0)).2.2.1,(List.getD a5 (Int.toNat a11) (0,0,0,0,0,0,0,0,0,0,0)).2.2.2.1,(List.getD a5 (Int.toNat a11) (0,0,0,0,0,0,0,0,0,0,0)).2.2.2.2.1,(List.getD a5 (Int.toNat a11) (0,0,0,0,0,0,0,0,0,0,0)).2.2.2.2.2.1,(List.getD a5 (Int.toNat a11) (0,0,0,0,0,0,0,0,0,0,0)).2.2.2.2.2.2.1,(List.getD a5 (Int.toNat a11) (0,0,0,0,0,0,0,0,0,0,0)).2.2.2.2.2.2.2.1,(List.getD a5 (Int.toNat a11) (0,0,0,0,0,0,0,0,0,0,0)).2.2.2.2.2.2.2.2.1,(List.getD a5 (Int.toNat a11) (0,0,0,0,0,0,0,0,0,0,0)).2.2.2.2.2.2.2.2.2.1,(List.getD a5 (Int.toNat a11) (0,0,0,0,0,0,0,0,0,0,0)).2.2.2.2.2.2.2.2.2.2,()))
 ) fun y0 =>
 Sum.elim (fun y1 =>
 some ((IntKind.wrap .i64 (y1.2.2.2.2.2.2.2.2.2.1 + y1.1),IntKind.wrap .i64 (y1.2.2.2.2.2.2.2.2.2.2.1 + y1.2.1),()))
 ) (fun z2 =>
 some (z2)
 ) (y0)
 else
 none
def f182.ins:Shape:=⟨[(0,wS),(1,n6)],[]⟩
def f182.outs:List Shape:=[⟨[(0,n6),(1,n6)],[]⟩]
def f182.S:FnSpec:=⟨f182.ins,f182.outs,[],fun x=>f182 x.1 x.2.1 x.2.2.1 x.2.2.2.1 x.2.2.2.2.1 x.2.2.2.2.2.1 x.2.2.2.2.2.2.1 x.2.2.2.2.2.2.2.1 x.2.2.2.2.2.2.2.2.1 x.2.2.2.2.2.2.2.2.2.1 x.2.2.2.2.2.2.2.2.2.2.1 x.2.2.2.2.2.2.2.2.2.2.2.1⟩
def f182.E (fuel:Nat):Env:=⟨tisB,[(192,f192.S)],[],[(6,⟨[(6,.c (.ptr 0 0)),(7,n6),(8,n6)],[(0,.box [.int .i64,.int .i64,.int .i64,.int .i64,.int .i64,.int .i64,.int .i64,.int .i64,.int .i64,.int .i64,.int .i64])]⟩)],[],[],0,[],fuel⟩
theorem f182.run:RunOk f182.E Go.Proofs.Tryz.f182 f182.S:=by intro x;kernel_rfl
theorem f182.sound:Sound Go.Proofs.Tryz.prog 182 f182.S:=sound_of_run (fun _=>f182.E 100000000000000000000) (by kernel_rfl) (by kernel_rfl) (by kernel_rfl) ordersB (fun _=>⟨tisB_ok,EqsOk.nil _,(fc f192.sound FnsOk.nil)⟩) (fun _=>rfl) (by kernel_rfl) (by kernel_rfl) (fun x r h=>(f182.run x).trans h)
/-! f116: adit/ents.Free -/
def f116 (a0:List E11) (a1:Int):Option (List E11×Unit) :=
 Option.bind (f104 a0) fun y0 =>
 Option.bind (α:=List E11×Unit ⊕ List E11×Unit) (
 bif decide (a1 ≥ 0) then
 Option.bind (f162 a0) fun y4 =>
 bif decide (a1 < (↑(List.length y4.1):Int)) then
 bif inRange a1 (List.length a0) then
 bif inRange a1 (List.length y0.1) then
 let s0:List E11:=List.set y0.1 (Int.toNat a1) (0,(List.getD a0 (Int.toNat a1) (0,0,0,0,0,0,0,0,0,0,0)).2.1,0,0,0,0,0,0,0,0,0)
 some (Sum.inl (s0,()))
 else
 none
 else
 none
 else
 some (Sum.inl (y0.1,()))
 else
 some (Sum.inl (y0.1,()))
 ) fun y1 =>
 Sum.elim (fun y2 =>
 some ((y2.1,()))
 ) (fun z3 =>
 some (z3)
 ) (y1)
def f116.ins:Shape:=⟨[(0,rE),(1,n6)],[]⟩
def f116.outs:List Shape:=[⟨[(0,.c (.own 0))],[(0,.arr tE)]⟩]
def f116.S:FnSpec:=⟨f116.ins,f116.outs,[],fun x=>f116 x.1 x.2.1⟩
def f116.E (fuel:Nat):Env:=⟨tisB,[(162,f162.S),(104,f104.S)],[],[(5,⟨[(5,.c (.own 0))],[(0,.arr tE)]⟩)],[],[],0,[],fuel⟩
theorem f116.run:RunOk f116.E Go.Proofs.Tryz.f116 f116.S:=by intro x;kernel_rfl
theorem f116.sound:Sound Go.Proofs.Tryz.prog 116 f116.S:=sound_of_run (fun _=>f116.E 100000000000000000000) (by kernel_rfl) (by kernel_rfl) (by kernel_rfl) ordersB (fun _=>⟨tisB_ok,EqsOk.nil _,(fc f162.sound (fc f104.sound FnsOk.nil))⟩) (fun _=>rfl) (by kernel_rfl) (by kernel_rfl) (fun x r h=>(f116.run x).trans h)
/-! f176: adit/goods.twin -/
def f176 (a0:Int) (a1:Int) (a2:Int) (a3:Int) (a4:List Int) (a5:List E11) (a6:List (Int×Int×Int×Int)) (a7:Int) (a8:Int) (a9:Int) (a10:Int):Option (Int×Int×Int×Int×Int×Int×Int×Int×List Int×List E11×List (Int×Int×Int×Int)×Unit) :=
 Option.bind (f103 a4) fun y0 =>
 Option.bind (f104 a5) fun y1 =>
 Option.bind (f105 a6) fun y2 =>
 some ((a0,a1,a2,a3,a7,a8,a9,a10,y0.1,y1.1,y2.1,()))
def f176.ins:Shape:=⟨[(0,wS)],[]⟩
def f176.outs:List Shape:=[⟨[(0,.agg [.int .i64,.int .i64,.int .i64,.int .i64,.own 0,.own 1,.own 2,.int .i64,.int .i64,.int .i64,.int .i64])],[(0,.arr (.int .u8)),(1,.arr tE),(2,.arr tI)]⟩]
def f176.S:FnSpec:=⟨f176.ins,f176.outs,[],fun x=>f176 x.1 x.2.1 x.2.2.1 x.2.2.2.1 x.2.2.2.2.1 x.2.2.2.2.2.1 x.2.2.2.2.2.2.1 x.2.2.2.2.2.2.2.1 x.2.2.2.2.2.2.2.2.1 x.2.2.2.2.2.2.2.2.2.1 x.2.2.2.2.2.2.2.2.2.2.1⟩
def f176.E (fuel:Nat):Env:=⟨tisB,[(104,f104.S),(105,f105.S),(103,f103.S)],[],[],[],[],0,[],fuel⟩
theorem f176.run:RunOk f176.E Go.Proofs.Tryz.f176 f176.S:=by intro x;kernel_rfl
theorem f176.sound:Sound Go.Proofs.Tryz.prog 176 f176.S:=sound_of_run (fun _=>f176.E 100000000000000000000) (by kernel_rfl) (by kernel_rfl) (by kernel_rfl) ordersB (fun _=>⟨tisB_ok,EqsOk.nil _,(fc f104.sound (fc f105.sound (fc f103.sound FnsOk.nil)))⟩) (fun _=>rfl) (by kernel_rfl) (by kernel_rfl) (fun x r h=>(f176.run x).trans h)
/-! f161: adit/goods.Sweep -/
def f161.L1 (x:Int×Int×Int×Int×Int×Int×Int×Int×Int×Int×Int×Int×Int×Int×Int×Int×Int×Int×Int×List (Int×Int×Int×Int)×List Int×List E11×Unit):Option (Int×Int×Int×Int×Int×Int×Int×Int×List Int×List E11×List (Int×Int×Int×Int)×Unit) :=
 it (X:=Int×Int×Int×Int×Int×Int×Int×Int×Int×Int×Int×Int×Int×Int×Int×Int×Int×Int×Int×List (Int×Int×Int×Int)×List Int×List E11×Unit) (fun rec x=>match x with
 | (v0,v1,v2,v3,v4,v5,v6,v7,v8,v9,v10,v11,v12,v13,v14,v15,v16,v17,v18,v19,v20,v21,_) =>
 bif decide (v2 < v1) then
 bif inRange v2 (List.length v19) then
 bif (List.getD v19 (Int.toNat v2) (0,0,0,0)).2.1 == 2 then
 bif (List.getD v19 (Int.toNat v2) (0,0,0,0)).2.2.1 == v0 then
 bif inRange v2 (List.length v19) then
 rec (v0,v1,IntKind.wrap .i64 (v2 + 1),v3,v4,v5,v6,v7,v8,v9,v10,v11,v12,v13,v14,v15,v16,v17,v18,List.set v19 (Int.toNat v2) (0,0,0,0),v20,v21,())
 else
 none
 else
 rec (v0,v1,IntKind.wrap .i64 (v2 + 1),v3,v4,v5,v6,v7,v8,v9,v10,v11,v12,v13,v14,v15,v16,v17,v18,v19,v20,v21,())
 else
 bif (List.getD v19 (Int.toNat v2) (0,0,0,0)).2.1 == 3 then
 bif (List.getD v19 (Int.toNat v2) (0,0,0,0)).2.2.1 == v0 then
 bif inRange v2 (List.length v19) then
 rec (v0,v1,IntKind.wrap .i64 (v2 + 1),v3,v4,v5,v6,v7,v8,v9,v10,v11,v12,v13,v14,v15,v16,v17,v18,List.set v19 (Int.toNat v2) (0,0,0,0),v20,v21,())
 else
 none
 else
 rec (v0,v1,IntKind.wrap .i64 (v2 + 1),v3,v4,v5,v6,v7,v8,v9,v10,v11,v12,v13,v14,v15,v16,v17,v18,v19,v20,v21,())
 else
 rec (v0,v1,IntKind.wrap .i64 (v2 + 1),v3,v4,v5,v6,v7,v8,v9,v10,v11,v12,v13,v14,v15,v16,v17,v18,v19,v20,v21,())
 else
 none
 else
 some ((v3,v4,v5,v6,v7,v8,v9,v10,v20,v21,v19,()))
 ) (100000000000000000000) (x)
def f161 (a0:Int) (a1:Int) (a2:Int) (a3:Int) (a4:List Int) (a5:List E11) (a6:List (Int×Int×Int×Int)) (a7:Int) (a8:Int) (a9:Int) (a10:Int) (a11:Int):Option (Int×Int×Int×Int×Int×Int×Int×Int×List Int×List E11×List (Int×Int×Int×Int)×Unit) :=
 Option.bind (f176 a0 a1 a2 a3 a4 a5 a6 a7 a8 a9 a10) fun y0 =>
 f161.L1 ((a11,(↑(List.length y0.2.2.2.2.2.2.2.2.2.2.1):Int),0,y0.1,y0.2.1,y0.2.2.1,y0.2.2.2.1,y0.2.2.2.2.1,y0.2.2.2.2.2.1,y0.2.2.2.2.2.2.1,y0.2.2.2.2.2.2.2.1,0,0,0,0,0,0,0,0,y0.2.2.2.2.2.2.2.2.2.2.1,y0.2.2.2.2.2.2.2.2.1,y0.2.2.2.2.2.2.2.2.2.1,()))
def f161.ins:Shape:=⟨[(0,wS),(1,n6)],[]⟩
def f161.outs:List Shape:=[⟨[(0,.agg [.int .i64,.int .i64,.int .i64,.int .i64,.own 0,.own 1,.own 2,.int .i64,.int .i64,.int .i64,.int .i64])],[(0,.arr (.int .u8)),(1,.arr tE),(2,.arr tI)]⟩]
def f161.S:FnSpec:=⟨f161.ins,f161.outs,[],fun x=>f161 x.1 x.2.1 x.2.2.1 x.2.2.2.1 x.2.2.2.2.1 x.2.2.2.2.2.1 x.2.2.2.2.2.2.1 x.2.2.2.2.2.2.2.1 x.2.2.2.2.2.2.2.2.1 x.2.2.2.2.2.2.2.2.2.1 x.2.2.2.2.2.2.2.2.2.2.1 x.2.2.2.2.2.2.2.2.2.2.2.1⟩
def f161.E (fuel:Nat):Env:=⟨tisB,[(176,f176.S)],[],[],[(4,⟨[(1,n6),(2,.c (.ptr 0 0)),(4,.c (.ptr 1 0)),(10,.c (.own 2)),(11,n6),(12,n6)],[(0,.box [.int .i64,.int .i64,.int .i64,.int .i64,.own 3,.own 4,.own 2,.int .i64,.int .i64,.int .i64,.int .i64]),(1,.box [.int .i64,.int .i64,.int .i64,.int .i64,.nils,.nils,.nils,.int .i64,.int .i64,.int .i64,.int .i64]),(2,.arr tI),(3,.arr (.int .u8)),(4,.arr tE)]⟩)],[],0,[],fuel⟩
theorem f161.run:RunOk f161.E Go.Proofs.Tryz.f161 f161.S:=by intro x;kernel_rfl
theorem f161.sound:Sound Go.Proofs.Tryz.prog 161 f161.S:=sound_of_run (fun _=>f161.E 100000000000000000000) (by kernel_rfl) (by kernel_rfl) (by kernel_rfl) ordersB (fun _=>⟨tisB_ok,EqsOk.nil _,(fc f176.sound FnsOk.nil)⟩) (fun _=>rfl) (by kernel_rfl) (by kernel_rfl) (fun x r h=>(f161.run x).trans h)
/-! f115: adit/fight.Hurt -/
def f115 (a0:Int) (a1:Int) (a2:Int) (a3:Int) (a4:List Int) (a5:List E11) (a6:List (Int×Int×Int×Int)) (a7:Int) (a8:Int) (a9:Int) (a10:Int) (a11:Int) (a12:Int):Option (Int×Int×Int×Int×Int×Int×Int×Int×List Int×List E11×List (Int×Int×Int×Int)×Unit) :=
 Option.bind (f113 a0 a1 a2 a3 a4 a5 a6 a7 a8 a9 a10) fun y0 =>
 Option.bind (f114 y0.1 y0.2.1 y0.2.2.1 y0.2.2.2.1 y0.2.2.2.2.2.2.2.2.1 y0.2.2.2.2.2.2.2.2.2.1 y0.2.2.2.2.2.2.2.2.2.2.1 y0.2.2.2.2.1 y0.2.2.2.2.2.1 y0.2.2.2.2.2.2.1 y0.2.2.2.2.2.2.2.1 a11) fun y1 =>
 bif !y1.1 then
 some ((y0.1,y0.2.1,y0.2.2.1,y0.2.2.2.1,y0.2.2.2.2.1,y0.2.2.2.2.2.1,y0.2.2.2.2.2.2.1,y0.2.2.2.2.2.2.2.1,y0.2.2.2.2.2.2.2.2.1,y0.2.2.2.2.2.2.2.2.2.1,y0.2.2.2.2.2.2.2.2.2.2.1,()))
 else
 bif decide (a12 < 1) then
 some ((y0.1,y0.2.1,y0.2.2.1,y0.2.2.2.1,y0.2.2.2.2.1,y0.2.2.2.2.2.1,y0.2.2.2.2.2.2.1,y0.2.2.2.2.2.2.2.1,y0.2.2.2.2.2.2.2.2.1,y0.2.2.2.2.2.2.2.2.2.1,y0.2.2.2.2.2.2.2.2.2.2.1,()))
 else
 bif inRange a11 (List.length y0.2.2.2.2.2.2.2.2.2.1) then
 bif decide ((List.getD y0.2.2.2.2.2.2.2.2.2.1 (Int.toNat a11) (0,0,0,0,0,0,0,0,0,0,0)).2.2.2.2.2.1 > a12) then
 let s0:List E11:=List.set y0.2.2.2.2.2.2.2.2.2.1 (Int.toNat a11) ((List.getD y0.2.2.2.2.2.2.2.2.2.1 (Int.toNat a11) (0,0,0,0,0,0,0,0,0,0,0)).1,(List.getD y0.2.2.2.2.2.2.2.2.2.1 (Int.toNat a11) (0,0,0,0,0,0,0,0,0,0,0)).2.1,(List.getD y0.2.2.2.2.2.2.2.2.2.1 (Int.toNat a11) (0,0,0,0,0,0,0,0,0,0,0)).2.2.1,(List.getD y0.2.2.2.2.2.2.2.2.2.1 (Int.toNat a11) (0,0,0,0,0,0,0,0,0,0,0)).2.2.2.1,(List.getD y0.2.2.2.2.2.2.2.2.2.1 (Int.toNat a11) (0,0,0,0,0,0,0,0,0,0,0)).2.2.2.2.1,IntKind.wrap .i64 ((List.getD y0.2.2.2.2.2.2.2.2.2.1 (Int.toNat a11) (0,0,0,0,0,0,0,0,0,0,0)).2.2.2.2.2.1 - a12),(List.getD y0.2.2.2.2.2.2.2.2.2.1 (Int.toNat a11) (0,0,0,0,0,0,0,0,0,0,0)).2.2.2.2.2.2.1,(List.getD y0.2.2.2.2.2.2.2.2.2.1 (Int.toNat a11) (0,0,0,0,0,0,0,0,0,0,0)).2.2.2.2.2.2.2.1,(List.getD y0.2.2.2.2.2.2.2.2.2.1 (Int.toNat a11) (0,0,0,0,0,0,0,0,0,0,0)).2.2.2.2.2.2.2.2.1,(List.getD y0.2.2.2.2.2.2.2.2.2.1 (Int.toNat a11) (0,0,0,0,0,0,0,0,0,0,0)).2.2.2.2.2.2.2.2.2.1,(List.getD y0.2.2.2.2.2.2.2.2.2.1 (Int.toNat a11) (0,0,0,0,0,0,0,0,0,0,0)).2.2.2.2.2.2.2.2.2.2)
 some ((y0.1,y0.2.1,y0.2.2.1,y0.2.2.2.1,y0.2.2.2.2.1,y0.2.2.2.2.2.1,y0.2.2.2.2.2.2.1,y0.2.2.2.2.2.2.2.1,y0.2.2.2.2.2.2.2.2.1,s0,y0.2.2.2.2.2.2.2.2.2.2.1,()))
 else
 Option.bind (f116 y0.2.2.2.2.2.2.2.2.2.1 a11) fun y2 =>
 bif (List.getD y0.2.2.2.2.2.2.2.2.2.1 (Int.toNat a11) (0,0,0,0,0,0,0,0,0,0,0)).1 == 1 then
 Option.bind (f161 y0.1 y0.2.1 y0.2.2.1 y0.2.2.2.1 y0.2.2.2.2.2.2.2.2.1 y2.1 y0.2.2.2.2.2.2.2.2.2.2.1 y0.2.2.2.2.1 y0.2.2.2.2.2.1 y0.2.2.2.2.2.2.1 y0.2.2.2.2.2.2.2.1 (List.getD y0.2.2.2.2.2.2.2.2.2.1 (Int.toNat a11) (0,0,0,0,0,0,0,0,0,0,0)).2.2.1) fun y3 =>
 some ((y3.1,y3.2.1,y3.2.2.1,y3.2.2.2.1,y3.2.2.2.2.1,y3.2.2.2.2.2.1,y3.2.2.2.2.2.2.1,y3.2.2.2.2.2.2.2.1,y3.2.2.2.2.2.2.2.2.1,y3.2.2.2.2.2.2.2.2.2.1,y3.2.2.2.2.2.2.2.2.2.2.1,()))
 else
 some ((y0.1,y0.2.1,y0.2.2.1,y0.2.2.2.1,y0.2.2.2.2.1,y0.2.2.2.2.2.1,y0.2.2.2.2.2.2.1,y0.2.2.2.2.2.2.2.1,y0.2.2.2.2.2.2.2.2.1,y2.1,y0.2.2.2.2.2.2.2.2.2.2.1,()))
 else
 none
def f115.ins:Shape:=⟨[(0,wS),(1,n6),(2,n6)],[]⟩
def f115.outs:List Shape:=[⟨[(0,.agg [.int .i64,.int .i64,.int .i64,.int .i64,.own 0,.own 1,.own 2,.int .i64,.int .i64,.int .i64,.int .i64])],[(0,.arr (.int .u8)),(1,.arr tE),(2,.arr tI)]⟩]
def f115.S:FnSpec:=⟨f115.ins,f115.outs,[],fun x=>f115 x.1 x.2.1 x.2.2.1 x.2.2.2.1 x.2.2.2.2.1 x.2.2.2.2.2.1 x.2.2.2.2.2.2.1 x.2.2.2.2.2.2.2.1 x.2.2.2.2.2.2.2.2.1 x.2.2.2.2.2.2.2.2.2.1 x.2.2.2.2.2.2.2.2.2.2.1 x.2.2.2.2.2.2.2.2.2.2.2.1 x.2.2.2.2.2.2.2.2.2.2.2.2.1⟩
def f115.E (fuel:Nat):Env:=⟨tisB,[(114,f114.S),(113,f113.S),(116,f116.S),(161,f161.S)],[],[],[],[],0,[],fuel⟩
theorem f115.run:RunOk f115.E Go.Proofs.Tryz.f115 f115.S:=by intro x;kernel_rfl
theorem f115.sound:Sound Go.Proofs.Tryz.prog 115 f115.S:=sound_of_run (fun _=>f115.E 100000000000000000000) (by kernel_rfl) (by kernel_rfl) (by kernel_rfl) ordersB (fun _=>⟨tisB_ok,EqsOk.nil _,(fc f114.sound (fc f113.sound (fc f116.sound (fc f161.sound FnsOk.nil))))⟩) (fun _=>rfl) (by kernel_rfl) (by kernel_rfl) (fun x r h=>(f115.run x).trans h)
/-! f160: adit/fight.Hit -/
def f160 (a0:Int) (a1:Int) (a2:Int) (a3:Int) (a4:List Int) (a5:List E11) (a6:List (Int×Int×Int×Int)) (a7:Int) (a8:Int) (a9:Int) (a10:Int) (a11:Int) (a12:Int):Option (Int×Int×Int×Int×Int×Int×Int×Int×List Int×List E11×List (Int×Int×Int×Int)×Unit) :=
 Option.bind (f114 a0 a1 a2 a3 a4 a5 a6 a7 a8 a9 a10 a11) fun y0 =>
 bif !y0.1 then
 Option.bind (f113 a0 a1 a2 a3 a4 a5 a6 a7 a8 a9 a10) fun y1 =>
 some ((y1.1,y1.2.1,y1.2.2.1,y1.2.2.2.1,y1.2.2.2.2.1,y1.2.2.2.2.2.1,y1.2.2.2.2.2.2.1,y1.2.2.2.2.2.2.2.1,y1.2.2.2.2.2.2.2.2.1,y1.2.2.2.2.2.2.2.2.2.1,y1.2.2.2.2.2.2.2.2.2.2.1,()))
 else
 Option.bind (f114 a0 a1 a2 a3 a4 a5 a6 a7 a8 a9 a10 a12) fun y2 =>
 bif !y2.1 then
 Option.bind (f113 a0 a1 a2 a3 a4 a5 a6 a7 a8 a9 a10) fun y3 =>
 some ((y3.1,y3.2.1,y3.2.2.1,y3.2.2.2.1,y3.2.2.2.2.1,y3.2.2.2.2.2.1,y3.2.2.2.2.2.2.1,y3.2.2.2.2.2.2.2.1,y3.2.2.2.2.2.2.2.2.1,y3.2.2.2.2.2.2.2.2.2.1,y3.2.2.2.2.2.2.2.2.2.2.1,()))
 else
 Option.bind (f182 a0 a1 a2 a3 a4 a5 a6 a7 a8 a9 a10 a11) fun y4 =>
 Option.bind (f182 a0 a1 a2 a3 a4 a5 a6 a7 a8 a9 a10 a12) fun y5 =>
 bif inRange a11 (List.length a5) then
 Option.bind (f71 3 a0 [a1,a11,a12,77]) fun y6 =>
 Option.bind (f115 a0 a1 a2 a3 a4 a5 a6 a7 a8 a9 a10 a12 (IntKind.wrap .i64 (maxI 1 (IntKind.wrap .i64 (y4.1 - y5.2.1)) + y6.1))) fun y7 =>
 Option.bind (f114 y7.1 y7.2.1 y7.2.2.1 y7.2.2.2.1 y7.2.2.2.2.2.2.2.2.1 y7.2.2.2.2.2.2.2.2.2.1 y7.2.2.2.2.2.2.2.2.2.2.1 y7.2.2.2.2.1 y7.2.2.2.2.2.1 y7.2.2.2.2.2.2.1 y7.2.2.2.2.2.2.2.1 a12) fun y8 =>
 bif !y8.1 then
 some ((y7.1,y7.2.1,y7.2.2.1,y7.2.2.2.1,y7.2.2.2.2.1,y7.2.2.2.2.2.1,y7.2.2.2.2.2.2.1,y7.2.2.2.2.2.2.2.1,y7.2.2.2.2.2.2.2.2.1,y7.2.2.2.2.2.2.2.2.2.1,y7.2.2.2.2.2.2.2.2.2.2.1,()))
 else
 bif inRange a12 (List.length y7.2.2.2.2.2.2.2.2.2.1) then
 Option.bind (α:=Int×Int×Int×Int×Int×Int×Int×Int×Int×Int×Int×Int×Int×Int×Int×Int×List Int×List E11×List (Int×Int×Int×Int)×Unit ⊕ Int×Int×Int×Int×Int×Int×Int×Int×List Int×List E11×List (Int×Int×Int×Int)×Unit) (
 bif (List.getD a5 (Int.toNat a11) (0,0,0,0,0,0,0,0,0,0,0)).1 == 4 then
 let s0:List E11:=List.set y7.2.2.2.2.2.2.2.2.2.1 (Int.toNat a12) ((List.getD y7.2.2.2.2.2.2.2.2.2.1 (Int.toNat a12) (0,0,0,0,0,0,0,0,0,0,0)).1,(List.getD y7.2.2.2.2.2.2.2.2.2.1 (Int.toNat a12) (0,0,0,0,0,0,0,0,0,0,0)).2.1,(List.getD y7.2.2.2.2.2.2.2.2.2.1 (Int.toNat a12) (0,0,0,0,0,0,0,0,0,0,0)).2.2.1,(List.getD y7.2.2.2.2.2.2.2.2.2.1 (Int.toNat a12) (0,0,0,0,0,0,0,0,0,0,0)).2.2.2.1,(List.getD y7.2.2.2.2.2.2.2.2.2.1 (Int.toNat a12) (0,0,0,0,0,0,0,0,0,0,0)).2.2.2.2.1,(List.getD y7.2.2.2.2.2.2.2.2.2.1 (Int.toNat a12) (0,0,0,0,0,0,0,0,0,0,0)).2.2.2.2.2.1,(List.getD y7.2.2.2.2.2.2.2.2.2.1 (Int.toNat a12) (0,0,0,0,0,0,0,0,0,0,0)).2.2.2.2.2.2.1,(List.getD y7.2.2.2.2.2.2.2.2.2.1 (Int.toNat a12) (0,0,0,0,0,0,0,0,0,0,0)).2.2.2.2.2.2.2.1,(List.getD y7.2.2.2.2.2.2.2.2.2.1 (Int.toNat a12) (0,0,0,0,0,0,0,0,0,0,0)).2.2.2.2.2.2.2.2.1,minI (IntKind.wrap .i64 ((List.getD y7.2.2.2.2.2.2.2.2.2.1 (Int.toNat a12) (0,0,0,0,0,0,0,0,0,0,0)).2.2.2.2.2.2.2.2.2.1 + 3)) 9,(List.getD y7.2.2.2.2.2.2.2.2.2.1 (Int.toNat a12) (0,0,0,0,0,0,0,0,0,0,0)).2.2.2.2.2.2.2.2.2.2)
 some (Sum.inl (y7.1,y7.2.1,y7.2.2.1,y7.2.2.2.1,y7.2.2.2.2.1,y7.2.2.2.2.2.1,y7.2.2.2.2.2.2.1,y7.2.2.2.2.2.2.2.1,0,0,0,0,0,0,0,0,y7.2.2.2.2.2.2.2.2.1,s0,y7.2.2.2.2.2.2.2.2.2.2.1,()))
 else
 bif (List.getD a5 (Int.toNat a11) (0,0,0,0,0,0,0,0,0,0,0)).1 == 3 then
 Option.bind (f71 4 y7.1 [y7.2.1,a11,a12,78]) fun y12 =>
 bif y12.1 != 0 then
 some (Sum.inl (y7.1,y7.2.1,y7.2.2.1,y7.2.2.2.1,y7.2.2.2.2.1,y7.2.2.2.2.2.1,y7.2.2.2.2.2.2.1,y7.2.2.2.2.2.2.2.1,0,0,0,0,0,0,0,0,y7.2.2.2.2.2.2.2.2.1,y7.2.2.2.2.2.2.2.2.2.1,y7.2.2.2.2.2.2.2.2.2.2.1,()))
 else
 let s0:List E11:=List.set y7.2.2.2.2.2.2.2.2.2.1 (Int.toNat a12) ((List.getD y7.2.2.2.2.2.2.2.2.2.1 (Int.toNat a12) (0,0,0,0,0,0,0,0,0,0,0)).1,(List.getD y7.2.2.2.2.2.2.2.2.2.1 (Int.toNat a12) (0,0,0,0,0,0,0,0,0,0,0)).2.1,(List.getD y7.2.2.2.2.2.2.2.2.2.1 (Int.toNat a12) (0,0,0,0,0,0,0,0,0,0,0)).2.2.1,(List.getD y7.2.2.2.2.2.2.2.2.2.1 (Int.toNat a12) (0,0,0,0,0,0,0,0,0,0,0)).2.2.2.1,(List.getD y7.2.2.2.2.2.2.2.2.2.1 (Int.toNat a12) (0,0,0,0,0,0,0,0,0,0,0)).2.2.2.2.1,(List.getD y7.2.2.2.2.2.2.2.2.2.1 (Int.toNat a12) (0,0,0,0,0,0,0,0,0,0,0)).2.2.2.2.2.1,(List.getD y7.2.2.2.2.2.2.2.2.2.1 (Int.toNat a12) (0,0,0,0,0,0,0,0,0,0,0)).2.2.2.2.2.2.1,(List.getD y7.2.2.2.2.2.2.2.2.2.1 (Int.toNat a12) (0,0,0,0,0,0,0,0,0,0,0)).2.2.2.2.2.2.2.1,(List.getD y7.2.2.2.2.2.2.2.2.2.1 (Int.toNat a12) (0,0,0,0,0,0,0,0,0,0,0)).2.2.2.2.2.2.2.2.1,(List.getD y7.2.2.2.2.2.2.2.2.2.1 (Int.toNat a12) (0,0,0,0,0,0,0,0,0,0,0)).2.2.2.2.2.2.2.2.2.1,minI (IntKind.wrap .i64 ((List.getD y7.2.2.2.2.2.2.2.2.2.1 (Int.toNat a12) (0,0,0,0,0,0,0,0,0,0,0)).2.2.2.2.2.2.2.2.2.2 + 2)) 9)
 some (Sum.inl (y7.1,y7.2.1,y7.2.2.1,y7.2.2.2.1,y7.2.2.2.2.1,y7.2.2.2.2.2.1,y7.2.2.2.2.2.2.1,y7.2.2.2.2.2.2.2.1,0,0,0,0,0,0,0,0,y7.2.2.2.2.2.2.2.2.1,s0,y7.2.2.2.2.2.2.2.2.2.2.1,()))
 else
 some (Sum.inl (y7.1,y7.2.1,y7.2.2.1,y7.2.2.2.1,y7.2.2.2.2.1,y7.2.2.2.2.2.1,y7.2.2.2.2.2.2.1,y7.2.2.2.2.2.2.2.1,0,0,0,0,0,0,0,0,y7.2.2.2.2.2.2.2.2.1,y7.2.2.2.2.2.2.2.2.2.1,y7.2.2.2.2.2.2.2.2.2.2.1,()))
 ) fun y9 =>
 Sum.elim (fun y10=>match y10 with
 | (u10_0,u10_1,u10_2,u10_3,u10_4,u10_5,u10_6,u10_7,_,_,_,_,_,_,_,_,u10_16,u10_17,u10_18,_) =>
 some ((u10_0,u10_1,u10_2,u10_3,u10_4,u10_5,u10_6,u10_7,u10_16,u10_17,u10_18,()))
 ) (fun z11 =>
 some (z11)
 ) (y9)
 else
 none
 else
 none
def f160.ins:Shape:=⟨[(0,wS),(1,n6),(2,n6)],[]⟩
def f160.outs:List Shape:=[⟨[(0,.agg [.int .i64,.int .i64,.int .i64,.int .i64,.own 0,.own 1,.own 2,.int .i64,.int .i64,.int .i64,.int .i64])],[(0,.arr (.int .u8)),(1,.arr tE),(2,.arr tI)]⟩]
def f160.S:FnSpec:=⟨f160.ins,f160.outs,[],fun x=>f160 x.1 x.2.1 x.2.2.1 x.2.2.2.1 x.2.2.2.2.1 x.2.2.2.2.2.1 x.2.2.2.2.2.2.1 x.2.2.2.2.2.2.2.1 x.2.2.2.2.2.2.2.2.1 x.2.2.2.2.2.2.2.2.2.1 x.2.2.2.2.2.2.2.2.2.2.1 x.2.2.2.2.2.2.2.2.2.2.2.1 x.2.2.2.2.2.2.2.2.2.2.2.2.1⟩
def f160.E (fuel:Nat):Env:=⟨tisB,[(71,f71.S),(114,f114.S),(113,f113.S),(182,f182.S),(115,f115.S)],[],[(17,⟨[(3,.c (.ptr 0 0)),(6,.c (.ptr 1 0))],[(0,.box [.int .i64,.int .i64,.int .i64,.int .i64,.own 2,.own 3,.own 4,.int .i64,.int .i64,.int .i64,.int .i64]),(1,.box [.int .i64,.int .i64,.int .i64,.int .i64,.nils,.nils,.nils,.int .i64,.int .i64,.int .i64,.int .i64]),(2,.arr (.int .u8)),(3,.arr tE),(4,.arr tI)]⟩)],[],[],0,[],fuel⟩
theorem f160.run:RunOk f160.E Go.Proofs.Tryz.f160 f160.S:=by intro x;kernel_rfl
theorem f160.sound:Sound Go.Proofs.Tryz.prog 160 f160.S:=sound_of_run (fun _=>f160.E 100000000000000000000) (by kernel_rfl) (by kernel_rfl) (by kernel_rfl) ordersB (fun _=>⟨tisB_ok,EqsOk.nil _,(fc f71.sound (fc f114.sound (fc f113.sound (fc f182.sound (fc f115.sound FnsOk.nil)))))⟩) (fun _=>rfl) (by kernel_rfl) (by kernel_rfl) (fun x r h=>(f160.run x).trans h)
/-! f112: (*adit/crawl.maker).walk -/
def f112 (a0:Int) (a1:Int) (a2:Int) (a3:Int) (a4:Int) (a5:Int) (a6:Int) (a7:Int) (a8:Int) (a9:Int) (a10:Bool) (a11:Bool) (a12:List Int) (a13:List E11) (a14:List (Int×Int×Int×Int)):Option (Int×Int×Int×Int×Int×Int×Int×Int×Bool×Bool×List Int×List E11×List (Int×Int×Int×Int)×Unit) :=
 bif inRange a0 (List.length a13) then
 Option.bind (f78 a1) fun y0 =>
 Option.bind (f96 a13 (IntKind.wrap .i64 ((List.getD a13 (Int.toNat a0) (0,0,0,0,0,0,0,0,0,0,0)).2.2.2.1 + y0.1)) (IntKind.wrap .i64 ((List.getD a13 (Int.toNat a0) (0,0,0,0,0,0,0,0,0,0,0)).2.2.2.2.1 + y0.2.1))) fun y1 =>
 Option.bind (α:=Int×Int×Int×Int×Bool×Int×Int×Int×Int×Int×Int×Int×Int×Bool×Bool×Int×Int×Int×Int×Int×Int×Int×Int×Int×Int×Int×List Int×List E11×List (Int×Int×Int×Int)×Unit ⊕ Int×Int×Int×Int×Int×Int×Int×Int×Bool×Bool×List Int×List E11×List (Int×Int×Int×Int)×Unit) (
 bif decide (y1.1 < 0) then
 Option.bind (f95 a12 (IntKind.wrap .i64 ((List.getD a13 (Int.toNat a0) (0,0,0,0,0,0,0,0,0,0,0)).2.2.2.1 + y0.1)) (IntKind.wrap .i64 ((List.getD a13 (Int.toNat a0) (0,0,0,0,0,0,0,0,0,0,0)).2.2.2.2.1 + y0.2.1))) fun y6 =>
 Option.bind (f15 y6.1) fun y7 =>
 some (Sum.inl (a0,IntKind.wrap .i64 ((List.getD a13 (Int.toNat a0) (0,0,0,0,0,0,0,0,0,0,0)).2.2.2.1 + y0.1),IntKind.wrap .i64 ((List.getD a13 (Int.toNat a0) (0,0,0,0,0,0,0,0,0,0,0)).2.2.2.2.1 + y0.2.1),y1.1,y7.1,a2,a3,a4,a5,a6,a7,a8,a9,a10,a11,(List.getD a13 (Int.toNat a0) (0,0,0,0,0,0,0,0,0,0,0)).1,(List.getD a13 (Int.toNat a0) (0,0,0,0,0,0,0,0,0,0,0)).2.1,(List.getD a13 (Int.toNat a0) (0,0,0,0,0,0,0,0,0,0,0)).2.2.1,(List.getD a13 (Int.toNat a0) (0,0,0,0,0,0,0,0,0,0,0)).2.2.2.1,(List.getD a13 (Int.toNat a0) (0,0,0,0,0,0,0,0,0,0,0)).2.2.2.2.1,(List.getD a13 (Int.toNat a0) (0,0,0,0,0,0,0,0,0,0,0)).2.2.2.2.2.1,(List.getD a13 (Int.toNat a0) (0,0,0,0,0,0,0,0,0,0,0)).2.2.2.2.2.2.1,(List.getD a13 (Int.toNat a0) (0,0,0,0,0,0,0,0,0,0,0)).2.2.2.2.2.2.2.1,(List.getD a13 (Int.toNat a0) (0,0,0,0,0,0,0,0,0,0,0)).2.2.2.2.2.2.2.2.1,(List.getD a13 (Int.toNat a0) (0,0,0,0,0,0,0,0,0,0,0)).2.2.2.2.2.2.2.2.2.1,(List.getD a13 (Int.toNat a0) (0,0,0,0,0,0,0,0,0,0,0)).2.2.2.2.2.2.2.2.2.2,a12,a13,a14,()))
 else
 some (Sum.inl (a0,IntKind.wrap .i64 ((List.getD a13 (Int.toNat a0) (0,0,0,0,0,0,0,0,0,0,0)).2.2.2.1 + y0.1),IntKind.wrap .i64 ((List.getD a13 (Int.toNat a0) (0,0,0,0,0,0,0,0,0,0,0)).2.2.2.2.1 + y0.2.1),y1.1,Bool.false,a2,a3,a4,a5,a6,a7,a8,a9,a10,a11,(List.getD a13 (Int.toNat a0) (0,0,0,0,0,0,0,0,0,0,0)).1,(List.getD a13 (Int.toNat a0) (0,0,0,0,0,0,0,0,0,0,0)).2.1,(List.getD a13 (Int.toNat a0) (0,0,0,0,0,0,0,0,0,0,0)).2.2.1,(List.getD a13 (Int.toNat a0) (0,0,0,0,0,0,0,0,0,0,0)).2.2.2.1,(List.getD a13 (Int.toNat a0) (0,0,0,0,0,0,0,0,0,0,0)).2.2.2.2.1,(List.getD a13 (Int.toNat a0) (0,0,0,0,0,0,0,0,0,0,0)).2.2.2.2.2.1,(List.getD a13 (Int.toNat a0) (0,0,0,0,0,0,0,0,0,0,0)).2.2.2.2.2.2.1,(List.getD a13 (Int.toNat a0) (0,0,0,0,0,0,0,0,0,0,0)).2.2.2.2.2.2.2.1,(List.getD a13 (Int.toNat a0) (0,0,0,0,0,0,0,0,0,0,0)).2.2.2.2.2.2.2.2.1,(List.getD a13 (Int.toNat a0) (0,0,0,0,0,0,0,0,0,0,0)).2.2.2.2.2.2.2.2.2.1,(List.getD a13 (Int.toNat a0) (0,0,0,0,0,0,0,0,0,0,0)).2.2.2.2.2.2.2.2.2.2,a12,a13,a14,()))
 ) fun y2 =>
 Sum.elim (fun y3=>match y3 with
 | (u3_0,u3_1,u3_2,u3_3,u3_4,u3_5,u3_6,u3_7,u3_8,u3_9,u3_10,u3_11,u3_12,u3_13,u3_14,u3_15,_,_,_,_,_,_,_,_,_,_,u3_26,u3_27,u3_28,_) =>
 bif u3_4 then
 bif inRange u3_0 (List.length u3_27) then
 let s0:List E11:=List.set u3_27 (Int.toNat u3_0) ((List.getD u3_27 (Int.toNat u3_0) (0,0,0,0,0,0,0,0,0,0,0)).1,(List.getD u3_27 (Int.toNat u3_0) (0,0,0,0,0,0,0,0,0,0,0)).2.1,(List.getD u3_27 (Int.toNat u3_0) (0,0,0,0,0,0,0,0,0,0,0)).2.2.1,u3_1,(List.getD u3_27 (Int.toNat u3_0) (0,0,0,0,0,0,0,0,0,0,0)).2.2.2.2.1,(List.getD u3_27 (Int.toNat u3_0) (0,0,0,0,0,0,0,0,0,0,0)).2.2.2.2.2.1,(List.getD u3_27 (Int.toNat u3_0) (0,0,0,0,0,0,0,0,0,0,0)).2.2.2.2.2.2.1,(List.getD u3_27 (Int.toNat u3_0) (0,0,0,0,0,0,0,0,0,0,0)).2.2.2.2.2.2.2.1,(List.getD u3_27 (Int.toNat u3_0) (0,0,0,0,0,0,0,0,0,0,0)).2.2.2.2.2.2.2.2.1,(List.getD u3_27 (Int.toNat u3_0) (0,0,0,0,0,0,0,0,0,0,0)).2.2.2.2.2.2.2.2.2.1,(List.getD u3_27 (Int.toNat u3_0) (0,0,0,0,0,0,0,0,0,0,0)).2.2.2.2.2.2.2.2.2.2)
 bif inRange u3_0 (List.length s0) then
 let s1:List E11:=List.set s0 (Int.toNat u3_0) ((List.getD s0 (Int.toNat u3_0) (0,0,0,0,0,0,0,0,0,0,0)).1,(List.getD s0 (Int.toNat u3_0) (0,0,0,0,0,0,0,0,0,0,0)).2.1,(List.getD s0 (Int.toNat u3_0) (0,0,0,0,0,0,0,0,0,0,0)).2.2.1,(List.getD s0 (Int.toNat u3_0) (0,0,0,0,0,0,0,0,0,0,0)).2.2.2.1,u3_2,(List.getD s0 (Int.toNat u3_0) (0,0,0,0,0,0,0,0,0,0,0)).2.2.2.2.2.1,(List.getD s0 (Int.toNat u3_0) (0,0,0,0,0,0,0,0,0,0,0)).2.2.2.2.2.2.1,(List.getD s0 (Int.toNat u3_0) (0,0,0,0,0,0,0,0,0,0,0)).2.2.2.2.2.2.2.1,(List.getD s0 (Int.toNat u3_0) (0,0,0,0,0,0,0,0,0,0,0)).2.2.2.2.2.2.2.2.1,(List.getD s0 (Int.toNat u3_0) (0,0,0,0,0,0,0,0,0,0,0)).2.2.2.2.2.2.2.2.2.1,(List.getD s0 (Int.toNat u3_0) (0,0,0,0,0,0,0,0,0,0,0)).2.2.2.2.2.2.2.2.2.2)
 some ((u3_5,u3_6,u3_7,u3_8,u3_9,u3_10,u3_11,u3_12,u3_13,u3_14,u3_26,s1,u3_28,()))
 else
 none
 else
 none
 else
 bif decide (u3_3 ≥ 0) then
 bif inRange u3_3 (List.length u3_27) then
 bif !((List.getD u3_27 (Int.toNat u3_3) (0,0,0,0,0,0,0,0,0,0,0)).1 == 1) == (u3_15 == 1) then
 Option.bind (f160 u3_5 u3_6 u3_7 u3_8 u3_26 u3_27 u3_28 u3_9 u3_10 u3_11 u3_12 u3_0 u3_3) fun y5 =>
 some ((y5.1,y5.2.1,y5.2.2.1,y5.2.2.2.1,y5.2.2.2.2.1,y5.2.2.2.2.2.1,y5.2.2.2.2.2.2.1,y5.2.2.2.2.2.2.2.1,u3_13,u3_14,y5.2.2.2.2.2.2.2.2.1,y5.2.2.2.2.2.2.2.2.2.1,y5.2.2.2.2.2.2.2.2.2.2.1,()))
 else
 some ((u3_5,u3_6,u3_7,u3_8,u3_9,u3_10,u3_11,u3_12,u3_13,u3_14,u3_26,u3_27,u3_28,()))
 else
 none
 else
 some ((u3_5,u3_6,u3_7,u3_8,u3_9,u3_10,u3_11,u3_12,u3_13,u3_14,u3_26,u3_27,u3_28,()))
 ) (fun z4 =>
 some (z4)
 ) (y2)
 else
 none
def f112.ins:Shape:=⟨[(0,.c (.ptr 0 0)),(1,n6),(2,n6)],[(0,.box [.int .i64,.int .i64,.int .i64,.int .i64,.own 1,.own 2,.own 3,.int .i64,.int .i64,.int .i64,.int .i64,.bool,.bool]),(1,.arr (.int .u8)),(2,.arr tE),(3,.arr tI)]⟩
def f112.outs:List Shape:=[⟨[],[(0,.box [.int .i64,.int .i64,.int .i64,.int .i64,.own 4,.own 5,.own 6,.int .i64,.int .i64,.int .i64,.int .i64,.bool,.bool]),(4,.arr (.int .u8)),(5,.arr tE),(6,.arr tI)]⟩]
def f112.S:FnSpec:=⟨f112.ins,f112.outs,[0],fun x=>f112 x.1 x.2.1 x.2.2.1 x.2.2.2.1 x.2.2.2.2.1 x.2.2.2.2.2.1 x.2.2.2.2.2.2.1 x.2.2.2.2.2.2.2.1 x.2.2.2.2.2.2.2.2.1 x.2.2.2.2.2.2.2.2.2.1 x.2.2.2.2.2.2.2.2.2.2.1 x.2.2.2.2.2.2.2.2.2.2.2.1 x.2.2.2.2.2.2.2.2.2.2.2.2.1 x.2.2.2.2.2.2.2.2.2.2.2.2.2.1 x.2.2.2.2.2.2.2.2.2.2.2.2.2.2.1⟩
def f112.E (fuel:Nat):Env:=⟨tisB,[(15,f15.S),(96,f96.S),(78,f78.S),(95,f95.S),(160,f160.S)],[],[(6,⟨[(0,.c (.ptr 0 0)),(1,n6),(6,.c (.ptr 4 0)),(9,n6),(10,n6),(11,n6),(41,.c (.bool))],[(0,.box [.int .i64,.int .i64,.int .i64,.int .i64,.own 5,.own 6,.own 7,.int .i64,.int .i64,.int .i64,.int .i64,.bool,.bool]),(4,.box [.int .i64,.int .i64,.int .i64,.int .i64,.int .i64,.int .i64,.int .i64,.int .i64,.int .i64,.int .i64,.int .i64]),(5,.arr (.int .u8)),(6,.arr tE),(7,.arr tI)]⟩)],[],[],4,[0],fuel⟩
theorem f112.run:RunOk f112.E Go.Proofs.Tryz.f112 f112.S:=by intro x;kernel_rfl
theorem f112.sound:Sound Go.Proofs.Tryz.prog 112 f112.S:=sound_of_run (fun _=>f112.E 100000000000000000000) (by kernel_rfl) (by kernel_rfl) (by kernel_rfl) ordersB (fun _=>⟨tisB_ok,EqsOk.nil _,(fc f15.sound (fc f96.sound (fc f78.sound (fc f95.sound (fc f160.sound FnsOk.nil)))))⟩) (fun _=>rfl) (by kernel_rfl) (by kernel_rfl) (fun x r h=>(f112.run x).trans h)
/-! f194: adit/goods.empty$1 -/
def f194 (a0:Int):Option (Bool×Unit) :=
 some ((decide (a0 < 0),()))
def f194.ins:Shape:=⟨[(0,n6)],[]⟩
def f194.outs:List Shape:=[⟨[(0,.c (.bool))],[]⟩]
def f194.S:FnSpec:=⟨f194.ins,f194.outs,[],fun x=>f194 x.1⟩
def f194.E (fuel:Nat):Env:=⟨tisB,[],[],[],[],[],0,[],fuel⟩
theorem f194.run:RunOk f194.E Go.Proofs.Tryz.f194 f194.S:=by intro x;kernel_rfl
theorem f194.sound:Sound Go.Proofs.Tryz.prog 194 f194.S:=sound_of_run (fun _=>f194.E 100000000000000000000) (by kernel_rfl) (by kernel_rfl) (by kernel_rfl) ordersB (fun _=>⟨tisB_ok,EqsOk.nil _,FnsOk.nil⟩) (fun _=>rfl) (by kernel_rfl) (by kernel_rfl) (fun x r h=>(f194.run x).trans h)
/-! f187: adit/goods.slot -/
def f187.L1 (x:Int×Int×Int×Int×Int×Int×List Int×List E11×List (Int×Int×Int×Int)×Int×Int×Int×Int×Unit):Option (Int×Unit) :=
 it (X:=Int×Int×Int×Int×Int×Int×List Int×List E11×List (Int×Int×Int×Int)×Int×Int×Int×Int×Unit) (fun rec x=>match x with
 | (v0,v1,v2,v3,v4,v5,v6,v7,v8,v9,v10,v11,v12,_) =>
 bif decide (v1 < 4) then
 Option.bind (f180 v2 v3 v4 v5 v6 v7 v8 v9 v10 v11 v12 2 v0 v1) fun y0 =>
 Option.bind (f194 y0.1) fun y1 =>
 bif y1.1 then
 some ((v1,()))
 else
 rec (v0,IntKind.wrap .i64 (v1 + 1),v2,v3,v4,v5,v6,v7,v8,v9,v10,v11,v12,())
 else
 some ((-1,()))
 ) (100000000000000000000) (x)
def f187 (a0:Int) (a1:Int) (a2:Int) (a3:Int) (a4:List Int) (a5:List E11) (a6:List (Int×Int×Int×Int)) (a7:Int) (a8:Int) (a9:Int) (a10:Int) (a11:Int):Option (Int×Unit) :=
 f187.L1 ((a11,0,a0,a1,a2,a3,a4,a5,a6,a7,a8,a9,a10,()))
def f187.ins:Shape:=⟨[(0,wS),(1,n6),(2,.c (.fn 194 []))],[]⟩
def f187.outs:List Shape:=[⟨[(0,n6)],[]⟩]
def f187.S:FnSpec:=⟨f187.ins,f187.outs,[],fun x=>f187 x.1 x.2.1 x.2.2.1 x.2.2.2.1 x.2.2.2.2.1 x.2.2.2.2.2.1 x.2.2.2.2.2.2.1 x.2.2.2.2.2.2.2.1 x.2.2.2.2.2.2.2.2.1 x.2.2.2.2.2.2.2.2.2.1 x.2.2.2.2.2.2.2.2.2.2.1 x.2.2.2.2.2.2.2.2.2.2.2.1⟩
def f187.E (fuel:Nat):Env:=⟨tisB,[(180,f180.S),(194,f194.S)],[],[],[(3,⟨[(1,n6),(2,.c (.fn 194 [])),(3,.c (.ptr 0 0)),(8,n6)],[(0,.box [.int .i64,.int .i64,.int .i64,.int .i64,.row (.int .u8),.row tE,.row tI,.int .i64,.int .i64,.int .i64,.int .i64])]⟩)],[],0,[],fuel⟩
theorem f187.run:RunOk f187.E Go.Proofs.Tryz.f187 f187.S:=by intro x;kernel_rfl
theorem f187.sound:Sound Go.Proofs.Tryz.prog 187 f187.S:=sound_of_run (fun _=>f187.E 100000000000000000000) (by kernel_rfl) (by kernel_rfl) (by kernel_rfl) ordersB (fun _=>⟨tisB_ok,EqsOk.nil _,(fc f180.sound (fc f194.sound FnsOk.nil))⟩) (fun _=>rfl) (by kernel_rfl) (by kernel_rfl) (fun x r h=>(f187.run x).trans h)
/-! f193: adit/goods.empty -/
def f193 (a0:Int) (a1:Int) (a2:Int) (a3:Int) (a4:List Int) (a5:List E11) (a6:List (Int×Int×Int×Int)) (a7:Int) (a8:Int) (a9:Int) (a10:Int) (a11:Int):Option (Int×Unit) :=
 Option.bind (f187 a0 a1 a2 a3 a4 a5 a6 a7 a8 a9 a10 a11) fun y0 =>
 some ((y0.1,()))
def f193.ins:Shape:=⟨[(0,wS),(1,n6)],[]⟩
def f193.outs:List Shape:=[⟨[(0,n6)],[]⟩]
def f193.S:FnSpec:=⟨f193.ins,f193.outs,[],fun x=>f193 x.1 x.2.1 x.2.2.1 x.2.2.2.1 x.2.2.2.2.1 x.2.2.2.2.2.1 x.2.2.2.2.2.2.1 x.2.2.2.2.2.2.2.1 x.2.2.2.2.2.2.2.2.1 x.2.2.2.2.2.2.2.2.2.1 x.2.2.2.2.2.2.2.2.2.2.1 x.2.2.2.2.2.2.2.2.2.2.2.1⟩
def f193.E (fuel:Nat):Env:=⟨tisB,[(187,f187.S)],[],[],[],[],0,[],fuel⟩
theorem f193.run:RunOk f193.E Go.Proofs.Tryz.f193 f193.S:=by intro x;kernel_rfl
theorem f193.sound:Sound Go.Proofs.Tryz.prog 193 f193.S:=sound_of_run (fun _=>f193.E 100000000000000000000) (by kernel_rfl) (by kernel_rfl) (by kernel_rfl) ordersB (fun _=>⟨tisB_ok,EqsOk.nil _,(fc f187.sound FnsOk.nil)⟩) (fun _=>rfl) (by kernel_rfl) (by kernel_rfl) (fun x r h=>(f193.run x).trans h)
/-! f186: adit/goods.into -/
def f186 (a0:Int) (a1:Int) (a2:Int) (a3:Int) (a4:Int) (a5:Int) (a6:Int) (a7:Int) (a8:Int) (a9:Int) (a10:List Int) (a11:List E11) (a12:List (Int×Int×Int×Int)):Option (Bool×List Int×List E11×List (Int×Int×Int×Int)×Unit) :=
 Option.bind (f193 a0 a1 a2 a3 a10 a11 a12 a4 a5 a6 a7 a8) fun y0 =>
 bif decide (y0.1 < 0) then
 some ((Bool.false,a10,a11,a12,()))
 else
 bif inRange a9 (List.length a12) then
 let s0:List (Int×Int×Int×Int):=List.set a12 (Int.toNat a9) ((List.getD a12 (Int.toNat a9) (0,0,0,0)).1,2,(List.getD a12 (Int.toNat a9) (0,0,0,0)).2.2.1,(List.getD a12 (Int.toNat a9) (0,0,0,0)).2.2.2)
 let s1:List (Int×Int×Int×Int):=List.set s0 (Int.toNat a9) ((List.getD s0 (Int.toNat a9) (0,0,0,0)).1,(List.getD s0 (Int.toNat a9) (0,0,0,0)).2.1,a8,(List.getD s0 (Int.toNat a9) (0,0,0,0)).2.2.2)
 let s2:List (Int×Int×Int×Int):=List.set s1 (Int.toNat a9) ((List.getD s1 (Int.toNat a9) (0,0,0,0)).1,(List.getD s1 (Int.toNat a9) (0,0,0,0)).2.1,(List.getD s1 (Int.toNat a9) (0,0,0,0)).2.2.1,y0.1)
 some ((Bool.true,a10,a11,s2,()))
 else
 none
def f186.ins:Shape:=⟨[(0,.agg [.int .i64,.int .i64,.int .i64,.int .i64,.own 0,.own 1,.own 2,.int .i64,.int .i64,.int .i64,.int .i64]),(1,n6),(2,n6)],[(0,.arr (.int .u8)),(1,.arr tE),(2,.arr tI)]⟩
def f186.outs:List Shape:=[⟨[(0,.c (.bool))],[(0,.arr (.int .u8)),(1,.arr tE),(2,.arr tI)]⟩]
def f186.S:FnSpec:=⟨f186.ins,f186.outs,[0,1,2],fun x=>f186 x.1 x.2.1 x.2.2.1 x.2.2.2.1 x.2.2.2.2.1 x.2.2.2.2.2.1 x.2.2.2.2.2.2.1 x.2.2.2.2.2.2.2.1 x.2.2.2.2.2.2.2.2.1 x.2.2.2.2.2.2.2.2.2.1 x.2.2.2.2.2.2.2.2.2.2.1 x.2.2.2.2.2.2.2.2.2.2.2.1 x.2.2.2.2.2.2.2.2.2.2.2.2.1⟩
def f186.E (fuel:Nat):Env:=⟨tisB,[(193,f193.S)],[],[],[],[],3,[0,1,2],fuel⟩
theorem f186.run:RunOk f186.E Go.Proofs.Tryz.f186 f186.S:=by intro x;kernel_rfl
theorem f186.sound:Sound Go.Proofs.Tryz.prog 186 f186.S:=sound_of_run (fun _=>f186.E 100000000000000000000) (by kernel_rfl) (by kernel_rfl) (by kernel_rfl) ordersB (fun _=>⟨tisB_ok,EqsOk.nil _,(fc f193.sound FnsOk.nil)⟩) (fun _=>rfl) (by kernel_rfl) (by kernel_rfl) (fun x r h=>(f186.run x).trans h)
/-! f177: adit/goods.pick -/
def f177 (a0:Int) (a1:Int) (a2:Int) (a3:Int) (a4:Int) (a5:Int) (a6:Int) (a7:Int) (a8:Int) (a9:Int) (a10:Int) (a11:Int) (a12:Int) (a13:Int) (a14:Int) (a15:Int) (a16:Int) (a17:Int) (a18:Int) (a19:Int) (a20:List Int) (a21:List E11) (a22:List (Int×Int×Int×Int)):Option (Int×Int×Int×Int×Int×Int×Int×Int×List Int×List E11×List (Int×Int×Int×Int)×Unit) :=
 Option.bind (f180 a12 a13 a14 a15 a20 a21 a22 a16 a17 a18 a19 1 a4 a5) fun y0 =>
 bif decide (y0.1 < 0) then
 some ((a12,a13,a14,a15,a16,a17,a18,a19,a20,a21,a22,()))
 else
 bif inRange y0.1 (List.length a22) then
 bif (List.getD a22 (Int.toNat y0.1) (0,0,0,0)).1 == 4 then
 bif inRange y0.1 (List.length a22) then
 bif inRange a0 4 then
 bif inRange a0 4 then
 some ((a12,a13,a14,a15,if Int.toNat a0 = 0 / 1 then minI (IntKind.wrap .i64 (List.getD [a16,a17,a18,a19] (Int.toNat a0) 0 + 5)) 999 else a16,if Int.toNat a0 = (0 + 1) / 1 then minI (IntKind.wrap .i64 (List.getD [a16,a17,a18,a19] (Int.toNat a0) 0 + 5)) 999 else a17,if Int.toNat a0 = (0 + 1 + 1) / 1 then minI (IntKind.wrap .i64 (List.getD [a16,a17,a18,a19] (Int.toNat a0) 0 + 5)) 999 else a18,if Int.toNat a0 = (0 + 1 + 1 + 1) / 1 then minI (IntKind.wrap .i64 (List.getD [a16,a17,a18,a19] (Int.toNat a0) 0 + 5)) 999 else a19,a20,a21,List.set a22 (Int.toNat y0.1) (0,0,0,0),()))
 else
 none
 else
 none
 else
 none
 else
 Option.bind (f186 a12 a13 a14 a15 a16 a17 a18 a19 a0 y0.1 a20 a21 a22) fun y1 =>
 some ((a12,a13,a14,a15,a16,a17,a18,a19,y1.2.1,y1.2.2.1,y1.2.2.2.1,()))
 else
 none
def f177.ins:Shape:=⟨[(0,.c (.ptr 0 0)),(1,n6),(2,eS)],[(0,.box [.int .i64,.int .i64,.int .i64,.int .i64,.own 1,.own 2,.own 3,.int .i64,.int .i64,.int .i64,.int .i64]),(1,.arr (.int .u8)),(2,.arr tE),(3,.arr tI)]⟩
def f177.outs:List Shape:=[⟨[],[(0,.box [.int .i64,.int .i64,.int .i64,.int .i64,.own 1,.own 2,.own 3,.int .i64,.int .i64,.int .i64,.int .i64]),(1,.arr (.int .u8)),(2,.arr tE),(3,.arr tI)]⟩]
def f177.S:FnSpec:=⟨f177.ins,f177.outs,[0,1,2,3],fun x=>f177 x.1 x.2.1 x.2.2.1 x.2.2.2.1 x.2.2.2.2.1 x.2.2.2.2.2.1 x.2.2.2.2.2.2.1 x.2.2.2.2.2.2.2.1 x.2.2.2.2.2.2.2.2.1 x.2.2.2.2.2.2.2.2.2.1 x.2.2.2.2.2.2.2.2.2.2.1 x.2.2.2.2.2.2.2.2.2.2.2.1 x.2.2.2.2.2.2.2.2.2.2.2.2.1 x.2.2.2.2.2.2.2.2.2.2.2.2.2.1 x.2.2.2.2.2.2.2.2.2.2.2.2.2.2.1 x.2.2.2.2.2.2.2.2.2.2.2.2.2.2.2.1 x.2.2.2.2.2.2.2.2.2.2.2.2.2.2.2.2.1 x.2.2.2.2.2.2.2.2.2.2.2.2.2.2.2.2.2.1 x.2.2.2.2.2.2.2.2.2.2.2.2.2.2.2.2.2.2.1 x.2.2.2.2.2.2.2.2.2.2.2.2.2.2.2.2.2.2.2.1 x.2.2.2.2.2.2.2.2.2.2.2.2.2.2.2.2.2.2.2.2.1 x.2.2.2.2.2.2.2.2.2.2.2.2.2.2.2.2.2.2.2.2.2.1 x.2.2.2.2.2.2.2.2.2.2.2.2.2.2.2.2.2.2.2.2.2.2.1⟩
def f177.E (fuel:Nat):Env:=⟨tisB,[(180,f180.S),(186,f186.S)],[],[],[],[],4,[0,1,2,3],fuel⟩
theorem f177.run:RunOk f177.E Go.Proofs.Tryz.f177 f177.S:=by intro x;kernel_rfl
theorem f177.sound:Sound Go.Proofs.Tryz.prog 177 f177.S:=sound_of_run (fun _=>f177.E 100000000000000000000) (by kernel_rfl) (by kernel_rfl) (by kernel_rfl) ordersB (fun _=>⟨tisB_ok,EqsOk.nil _,(fc f180.sound (fc f186.sound FnsOk.nil))⟩) (fun _=>rfl) (by kernel_rfl) (by kernel_rfl) (fun x r h=>(f177.run x).trans h)
/-! f188: adit/goods.holding$1 -/
def f188 (a0:Int) (a1:List Int) (a2:Int×Int×Int×Int×List Int×List E11×List (Int×Int×Int×Int)×Int×Int×Int×Int):Option (Bool×Unit) :=
 bif decide (a0 ≥ 0) then
 bif inRange a0 (List.length a2.2.2.2.2.2.2.1) then
 Option.bind (f129 a1 (List.getD a2.2.2.2.2.2.2.1 (Int.toNat a0) (0,0,0,0)).1) fun y0 =>
 some ((y0.1,()))
 else
 none
 else
 some ((Bool.false,()))
def f188.ins:Shape:=⟨[(0,n6),(1,.c (.bptr (.row (.int .i64)))),(2,.c (.bptr (.prod (.int .i64) (.prod (.int .i64) (.prod (.int .i64) (.prod (.int .i64) (.prod (.row (.int .u8)) (.prod (.row tE) (.prod (.row tI) tI)))))))))],[]⟩
def f188.outs:List Shape:=[⟨[(0,.c (.bool))],[]⟩]
def f188.S:FnSpec:=⟨f188.ins,f188.outs,[],fun x=>f188 x.1 x.2.1 x.2.2.1⟩
def f188.E (fuel:Nat):Env:=⟨tisB,[(129,f129.S)],[],[],[],[],0,[],fuel⟩
theorem f188.run:RunOk f188.E Go.Proofs.Tryz.f188 f188.S:=by intro x;kernel_rfl
theorem f188.sound:Sound Go.Proofs.Tryz.prog 188 f188.S:=sound_of_run (fun _=>f188.E 100000000000000000000) (by kernel_rfl) (by kernel_rfl) (by kernel_rfl) ordersB (fun _=>⟨tisB_ok,EqsOk.nil _,(fc f129.sound FnsOk.nil)⟩) (fun _=>rfl) (by kernel_rfl) (by kernel_rfl) (fun x r h=>(f188.run x).trans h)
/-! f187_1: adit/goods.slot -/
def f187_1.L1 (x:Int×Int×List Int×Int×Int×Int×Int×List Int×List E11×List (Int×Int×Int×Int)×Int×Int×Int×Int×Int×Int×Int×Int×List Int×List E11×List (Int×Int×Int×Int)×Int×Int×Int×Int×Unit):Option (Int×List Int×Int×Int×Int×Int×List Int×List E11×List (Int×Int×Int×Int)×Int×Int×Int×Int×Unit) :=
 it (X:=Int×Int×List Int×Int×Int×Int×Int×List Int×List E11×List (Int×Int×Int×Int)×Int×Int×Int×Int×Int×Int×Int×Int×List Int×List E11×List (Int×Int×Int×Int)×Int×Int×Int×Int×Unit) (fun rec x=>match x with
 | (v0,v1,v2,v3,v4,v5,v6,v7,v8,v9,v10,v11,v12,v13,v14,v15,v16,v17,v18,v19,v20,v21,v22,v23,v24,_) =>
 bif decide (v1 < 4) then
 Option.bind (f180 v14 v15 v16 v17 v18 v19 v20 v21 v22 v23 v24 2 v0 v1) fun y0 =>
 Option.bind (f188 y0.1 v2 (v3,v4,v5,v6,v7,v8,v9,v10,v11,v12,v13)) fun y1 =>
 bif y1.1 then
 some ((v1,v2,v3,v4,v5,v6,v7,v8,v9,v10,v11,v12,v13,()))
 else
 rec (v0,IntKind.wrap .i64 (v1 + 1),v2,v3,v4,v5,v6,v7,v8,v9,v10,v11,v12,v13,v14,v15,v16,v17,v18,v19,v20,v21,v22,v23,v24,())
 else
 some ((-1,v2,v3,v4,v5,v6,v7,v8,v9,v10,v11,v12,v13,()))
 ) (100000000000000000000) (x)
def f187_1 (a0:Int) (a1:Int) (a2:Int) (a3:Int) (a4:List Int) (a5:List E11) (a6:List (Int×Int×Int×Int)) (a7:Int) (a8:Int) (a9:Int) (a10:Int) (a11:Int) (a12:List Int) (a13:Int) (a14:Int) (a15:Int) (a16:Int) (a17:List Int) (a18:List E11) (a19:List (Int×Int×Int×Int)) (a20:Int) (a21:Int) (a22:Int) (a23:Int):Option (Int×List Int×Int×Int×Int×Int×List Int×List E11×List (Int×Int×Int×Int)×Int×Int×Int×Int×Unit) :=
 f187_1.L1 ((a11,0,a12,a13,a14,a15,a16,a17,a18,a19,a20,a21,a22,a23,a0,a1,a2,a3,a4,a5,a6,a7,a8,a9,a10,()))
def f187_1.ins:Shape:=⟨[(0,wS),(1,n6),(2,.c (.fn 188 [0,1]))],[(0,.box [.row (.int .i64)]),(1,.box [.int .i64,.int .i64,.int .i64,.int .i64,.row (.int .u8),.row tE,.row tI,.int .i64,.int .i64,.int .i64,.int .i64])]⟩
def f187_1.outs:List Shape:=[⟨[(0,n6)],[(0,.box [.row (.int .i64)]),(1,.box [.int .i64,.int .i64,.int .i64,.int .i64,.row (.int .u8),.row tE,.row tI,.int .i64,.int .i64,.int .i64,.int .i64])]⟩]
def f187_1.S:FnSpec:=⟨f187_1.ins,f187_1.outs,[0,1],fun x=>f187_1 x.1 x.2.1 x.2.2.1 x.2.2.2.1 x.2.2.2.2.1 x.2.2.2.2.2.1 x.2.2.2.2.2.2.1 x.2.2.2.2.2.2.2.1 x.2.2.2.2.2.2.2.2.1 x.2.2.2.2.2.2.2.2.2.1 x.2.2.2.2.2.2.2.2.2.2.1 x.2.2.2.2.2.2.2.2.2.2.2.1 x.2.2.2.2.2.2.2.2.2.2.2.2.1 x.2.2.2.2.2.2.2.2.2.2.2.2.2.1 x.2.2.2.2.2.2.2.2.2.2.2.2.2.2.1 x.2.2.2.2.2.2.2.2.2.2.2.2.2.2.2.1 x.2.2.2.2.2.2.2.2.2.2.2.2.2.2.2.2.1 x.2.2.2.2.2.2.2.2.2.2.2.2.2.2.2.2.2.1 x.2.2.2.2.2.2.2.2.2.2.2.2.2.2.2.2.2.2.1 x.2.2.2.2.2.2.2.2.2.2.2.2.2.2.2.2.2.2.2.1 x.2.2.2.2.2.2.2.2.2.2.2.2.2.2.2.2.2.2.2.2.1 x.2.2.2.2.2.2.2.2.2.2.2.2.2.2.2.2.2.2.2.2.2.1 x.2.2.2.2.2.2.2.2.2.2.2.2.2.2.2.2.2.2.2.2.2.2.1 x.2.2.2.2.2.2.2.2.2.2.2.2.2.2.2.2.2.2.2.2.2.2.2.1⟩
def f187_1.E (fuel:Nat):Env:=⟨tisB,[(180,f180.S),(188,f188.S)],[],[],[(3,⟨[(1,n6),(2,.c (.fn 188 [0,1])),(3,.c (.ptr 2 0)),(8,n6)],[(0,.box [.row (.int .i64)]),(1,.box [.int .i64,.int .i64,.int .i64,.int .i64,.row (.int .u8),.row tE,.row tI,.int .i64,.int .i64,.int .i64,.int .i64]),(2,.box [.int .i64,.int .i64,.int .i64,.int .i64,.row (.int .u8),.row tE,.row tI,.int .i64,.int .i64,.int .i64,.int .i64])]⟩)],[],2,[0,1],fuel⟩
theorem f187_1.run:RunOk f187_1.E Go.Proofs.Tryz.f187 f187_1.S:=by intro x;kernel_rfl
theorem f187_1.sound:Sound Go.Proofs.Tryz.prog 187 f187_1.S:=sound_of_run (fun _=>f187_1.E 100000000000000000000) (by kernel_rfl) (by kernel_rfl) (by kernel_rfl) ordersB (fun _=>⟨tisB_ok,EqsOk.nil _,(fc f180.sound (fc f188.sound FnsOk.nil))⟩) (fun _=>rfl) (by kernel_rfl) (by kernel_rfl) (fun x r h=>(f187_1.run x).trans h)
/-! f178: adit/goods.holding -/
def f178 (a0:Int) (a1:Int) (a2:Int) (a3:Int) (a4:List Int) (a5:List E11) (a6:List (Int×Int×Int×Int)) (a7:Int) (a8:Int) (a9:Int) (a10:Int) (a11:Int) (a12:List Int):Option (Int×Unit) :=
 Option.bind (f187_1 a0 a1 a2 a3 a4 a5 a6 a7 a8 a9 a10 a11 a12 a0 a1 a2 a3 a4 a5 a6 a7 a8 a9 a10) fun y0 =>
 bif decide (y0.1 < 0) then
 some ((-1,()))
 else
 Option.bind (f180 y0.2.2.1 y0.2.2.2.1 y0.2.2.2.2.1 y0.2.2.2.2.2.1 y0.2.2.2.2.2.2.1 y0.2.2.2.2.2.2.2.1 y0.2.2.2.2.2.2.2.2.1 y0.2.2.2.2.2.2.2.2.2.1 y0.2.2.2.2.2.2.2.2.2.2.1 y0.2.2.2.2.2.2.2.2.2.2.2.1 y0.2.2.2.2.2.2.2.2.2.2.2.2.1 2 a11 y0.1) fun y1 =>
 some ((y1.1,()))
def f178.ins:Shape:=⟨[(0,wS),(1,n6),(2,.c (.row (.int .i64)))],[]⟩
def f178.outs:List Shape:=[⟨[(0,n6)],[]⟩]
def f178.S:FnSpec:=⟨f178.ins,f178.outs,[],fun x=>f178 x.1 x.2.1 x.2.2.1 x.2.2.2.1 x.2.2.2.2.1 x.2.2.2.2.2.1 x.2.2.2.2.2.2.1 x.2.2.2.2.2.2.2.1 x.2.2.2.2.2.2.2.2.1 x.2.2.2.2.2.2.2.2.2.1 x.2.2.2.2.2.2.2.2.2.2.1 x.2.2.2.2.2.2.2.2.2.2.2.1 x.2.2.2.2.2.2.2.2.2.2.2.2.1⟩
def f178.E (fuel:Nat):Env:=⟨tisB,[(180,f180.S),(187,f187_1.S)],[],[],[],[],0,[],fuel⟩
theorem f178.run:RunOk f178.E Go.Proofs.Tryz.f178 f178.S:=by intro x;kernel_rfl
theorem f178.sound:Sound Go.Proofs.Tryz.prog 178 f178.S:=sound_of_run (fun _=>f178.E 100000000000000000000) (by kernel_rfl) (by kernel_rfl) (by kernel_rfl) ordersB (fun _=>⟨tisB_ok,EqsOk.nil _,(fc f180.sound (fc f187_1.sound FnsOk.nil))⟩) (fun _=>rfl) (by kernel_rfl) (by kernel_rfl) (fun x r h=>(f178.run x).trans h)
/-! f179: adit/goods.wear -/
def f179 (a0:Int) (a1:Int) (a2:Int) (a3:Int) (a4:Int) (a5:Int) (a6:Int) (a7:Int) (a8:Int) (a9:List Int) (a10:List E11) (a11:List (Int×Int×Int×Int)):Option (List Int×List E11×List (Int×Int×Int×Int)×Unit) :=
 Option.bind (f178 a0 a1 a2 a3 a9 a10 a11 a4 a5 a6 a7 a8 [2,3]) fun y0 =>
 bif decide (y0.1 < 0) then
 some ((a9,a10,a11,()))
 else
 bif inRange y0.1 (List.length a11) then
 Option.bind (α:=Nat×Int×List Int×List E11×List (Int×Int×Int×Int)×Unit ⊕ List Int×List E11×List (Int×Int×Int×Int)×Unit) (
 Option.bind (f180 a0 a1 a2 a3 a9 a10 a11 a4 a5 a6 a7 3 a8 (IntKind.wrap .i64 ((List.getD a11 (Int.toNat y0.1) (0,0,0,0)).1 - 2))) fun y4 =>
 bif decide (y4.1 ≥ 0) then
 bif inRange y4.1 (List.length a11) then
 let s0:List (Int×Int×Int×Int):=List.set a11 (Int.toNat y4.1) ((List.getD a11 (Int.toNat y4.1) (0,0,0,0)).1,2,(List.getD a11 (Int.toNat y4.1) (0,0,0,0)).2.2.1,(List.getD a11 (Int.toNat y4.1) (0,0,0,0)).2.2.2)
 bif inRange y4.1 (List.length s0) then
 let s1:List (Int×Int×Int×Int):=List.set s0 (Int.toNat y4.1) ((List.getD s0 (Int.toNat y4.1) (0,0,0,0)).1,(List.getD s0 (Int.toNat y4.1) (0,0,0,0)).2.1,(List.getD s0 (Int.toNat y4.1) (0,0,0,0)).2.2.1,(List.getD a11 (Int.toNat y0.1) (0,0,0,0)).2.2.2)
 some (Sum.inl (Int.toNat y0.1,IntKind.wrap .i64 ((List.getD a11 (Int.toNat y0.1) (0,0,0,0)).1 - 2),a9,a10,s1,()))
 else
 none
 else
 none
 else
 some (Sum.inl (Int.toNat y0.1,IntKind.wrap .i64 ((List.getD a11 (Int.toNat y0.1) (0,0,0,0)).1 - 2),a9,a10,a11,()))
 ) fun y1 =>
 Sum.elim (fun y2 =>
 let s0:List (Int×Int×Int×Int):=List.set y2.2.2.2.2.1 y2.1 ((List.getD y2.2.2.2.2.1 y2.1 (0,0,0,0)).1,3,(List.getD y2.2.2.2.2.1 y2.1 (0,0,0,0)).2.2.1,(List.getD y2.2.2.2.2.1 y2.1 (0,0,0,0)).2.2.2)
 let s1:List (Int×Int×Int×Int):=List.set s0 y2.1 ((List.getD s0 y2.1 (0,0,0,0)).1,(List.getD s0 y2.1 (0,0,0,0)).2.1,(List.getD s0 y2.1 (0,0,0,0)).2.2.1,y2.2.1)
 some ((y2.2.2.1,y2.2.2.2.1,s1,()))
 ) (fun z3 =>
 some (z3)
 ) (y1)
 else
 none
def f179.ins:Shape:=⟨[(0,.agg [.int .i64,.int .i64,.int .i64,.int .i64,.own 0,.own 1,.own 2,.int .i64,.int .i64,.int .i64,.int .i64]),(1,n6)],[(0,.arr (.int .u8)),(1,.arr tE),(2,.arr tI)]⟩
def f179.outs:List Shape:=[⟨[],[(0,.arr (.int .u8)),(1,.arr tE),(2,.arr tI)]⟩]
def f179.S:FnSpec:=⟨f179.ins,f179.outs,[0,1,2],fun x=>f179 x.1 x.2.1 x.2.2.1 x.2.2.2.1 x.2.2.2.2.1 x.2.2.2.2.2.1 x.2.2.2.2.2.2.1 x.2.2.2.2.2.2.2.1 x.2.2.2.2.2.2.2.2.1 x.2.2.2.2.2.2.2.2.2.1 x.2.2.2.2.2.2.2.2.2.2.1 x.2.2.2.2.2.2.2.2.2.2.2.1⟩
def f179.E (fuel:Nat):Env:=⟨tisB,[(180,f180.S),(178,f178.S)],[],[(9,⟨[(5,.c (.eptr 2 0)),(6,n6)],[(0,.arr (.int .u8)),(1,.arr tE),(2,.arr tI)]⟩)],[],[],3,[0,1,2],fuel⟩
theorem f179.run:RunOk f179.E Go.Proofs.Tryz.f179 f179.S:=by intro x;kernel_rfl
theorem f179.sound:Sound Go.Proofs.Tryz.prog 179 f179.S:=sound_of_run (fun _=>f179.E 100000000000000000000) (by kernel_rfl) (by kernel_rfl) (by kernel_rfl) ordersB (fun _=>⟨tisB_ok,EqsOk.nil _,(fc f180.sound (fc f178.sound FnsOk.nil))⟩) (fun _=>rfl) (by kernel_rfl) (by kernel_rfl) (fun x r h=>(f179.run x).trans h)
/-! f191: adit/goods.buy$1 -/
def f191 (a0:Int) (a1:Int) (a2:Int) (a3:Int) (a4:Int):Option (Bool×Unit) :=
 bif a0 != 0 then
 bif a1 == 4 then
 some ((a2 == a4,()))
 else
 some ((Bool.false,()))
 else
 some ((Bool.false,()))
def f191.ins:Shape:=⟨[(0,.agg [.int .i64,.int .i64,.int .i64,.int .i64]),(1,.c (.bptr (.int .i64)))],[]⟩
def f191.outs:List Shape:=[⟨[(0,.c (.bool))],[]⟩]
def f191.S:FnSpec:=⟨f191.ins,f191.outs,[],fun x=>f191 x.1 x.2.1 x.2.2.1 x.2.2.2.1 x.2.2.2.2.1⟩
def f191.E (fuel:Nat):Env:=⟨tisB,[],[],[],[],[],0,[],fuel⟩
theorem f191.run:RunOk f191.E Go.Proofs.Tryz.f191 f191.S:=by intro x;kernel_rfl
theorem f191.sound:Sound Go.Proofs.Tryz.prog 191 f191.S:=sound_of_run (fun _=>f191.E 100000000000000000000) (by kernel_rfl) (by kernel_rfl) (by kernel_rfl) ordersB (fun _=>⟨tisB_ok,EqsOk.nil _,FnsOk.nil⟩) (fun _=>rfl) (by kernel_rfl) (by kernel_rfl) (fun x r h=>(f191.run x).trans h)
/-! f189_1: slices.IndexFunc[[]adit/api.Item,adit/api.Item] -/
def f189_1.L1 (x:List (Int×Int×Int×Int)×Int×Int×Int×Unit):Option (Int×Int×Unit) :=
 it (X:=List (Int×Int×Int×Int)×Int×Int×Int×Unit) (fun rec x =>
 bif decide (x.2.2.1 < x.2.1) then
 bif inRange x.2.2.1 (List.length x.1) then
 Option.bind (f191 (List.getD x.1 (Int.toNat x.2.2.1) (0,0,0,0)).1 (List.getD x.1 (Int.toNat x.2.2.1) (0,0,0,0)).2.1 (List.getD x.1 (Int.toNat x.2.2.1) (0,0,0,0)).2.2.1 (List.getD x.1 (Int.toNat x.2.2.1) (0,0,0,0)).2.2.2 x.2.2.2.1) fun y0 =>
 bif y0.1 then
 some ((x.2.2.1,x.2.2.2.1,()))
 else
 rec (x.1,x.2.1,IntKind.wrap .i64 (x.2.2.1 + 1),x.2.2.2.1,())
 else
 none
 else
 some ((-1,x.2.2.2.1,()))
 ) (100000000000000000000) (x)
def f189_1 (a0:List (Int×Int×Int×Int)) (a1:Int):Option (Int×Int×Unit) :=
 f189_1.L1 ((a0,(↑(List.length a0):Int),0,a1,()))
def f189_1.ins:Shape:=⟨[(0,rI),(1,.c (.fn 191 [0]))],[(0,.box [.int .i64])]⟩
def f189_1.outs:List Shape:=[⟨[(0,n6)],[(0,.box [.int .i64])]⟩]
def f189_1.S:FnSpec:=⟨f189_1.ins,f189_1.outs,[0],fun x=>f189_1 x.1 x.2.1⟩
def f189_1.E (fuel:Nat):Env:=⟨tisB,[(191,f191.S)],[],[],[(3,⟨[(0,rI),(1,.c (.fn 191 [0])),(7,n6),(8,n6)],[(0,.box [.int .i64])]⟩)],[],1,[0],fuel⟩
theorem f189_1.run:RunOk f189_1.E Go.Proofs.Tryz.f189 f189_1.S:=by intro x;kernel_rfl
theorem f189_1.sound:Sound Go.Proofs.Tryz.prog 189 f189_1.S:=sound_of_run (fun _=>f189_1.E 100000000000000000000) (by kernel_rfl) (by kernel_rfl) (by kernel_rfl) ordersB (fun _=>⟨tisB_ok,EqsOk.nil _,(fc f191.sound FnsOk.nil)⟩) (fun _=>rfl) (by kernel_rfl) (by kernel_rfl) (fun x r h=>(f189_1.run x).trans h)
/-! f181: adit/goods.buy -/
def f181.L1 (x:Int×Int×Int×Int×Int×Int×Int×Int×Int×Int×List Int×List E11×List (Int×Int×Int×Int)×Unit):Option (Int×Int×Int×Int×Int×Int×Int×Int×List Int×List E11×List (Int×Int×Int×Int)×Unit) :=
 it (X:=Int×Int×Int×Int×Int×Int×Int×Int×Int×Int×List Int×List E11×List (Int×Int×Int×Int)×Unit) (fun rec x=>match x with
 | (v0,v1,v2,v3,v4,v5,v6,v7,v8,v9,v10,v11,v12,_) =>
 bif decide (v1 < 3) then
 Option.bind (f189_1 v12 v1) fun y0 =>
 bif decide (y0.1 ≥ 0) then
 Option.bind (f186 v2 v3 v4 v5 v6 v7 v8 v9 v0 y0.1 v10 v11 v12) fun y1 =>
 bif y1.1 then
 bif inRange v0 4 then
 bif inRange v0 4 then
 some ((v2,v3,v4,v5,if Int.toNat v0 = 0 / 1 then IntKind.wrap .i64 (List.getD [v6,v7,v8,v9] (Int.toNat v0) 0 - 5) else v6,if Int.toNat v0 = (0 + 1) / 1 then IntKind.wrap .i64 (List.getD [v6,v7,v8,v9] (Int.toNat v0) 0 - 5) else v7,if Int.toNat v0 = (0 + 1 + 1) / 1 then IntKind.wrap .i64 (List.getD [v6,v7,v8,v9] (Int.toNat v0) 0 - 5) else v8,if Int.toNat v0 = (0 + 1 + 1 + 1) / 1 then IntKind.wrap .i64 (List.getD [v6,v7,v8,v9] (Int.toNat v0) 0 - 5) else v9,y1.2.1,y1.2.2.1,y1.2.2.2.1,()))
 else
 none
 else
 none
 else
 some ((v2,v3,v4,v5,v6,v7,v8,v9,y1.2.1,y1.2.2.1,y1.2.2.2.1,()))
 else
 rec (v0,IntKind.wrap .i64 (v1 + 1),v2,v3,v4,v5,v6,v7,v8,v9,v10,v11,v12,())
 else
 some ((v2,v3,v4,v5,v6,v7,v8,v9,v10,v11,v12,()))
 ) (100000000000000000000) (x)
def f181 (a0:Int) (a1:Int) (a2:Int) (a3:Int) (a4:Int) (a5:Int) (a6:Int) (a7:Int) (a8:Int) (a9:Int) (a10:Int) (a11:Int) (a12:Int) (a13:Int) (a14:Int) (a15:Int) (a16:Int) (a17:Int) (a18:Int) (a19:Int) (a20:List Int) (a21:List E11) (a22:List (Int×Int×Int×Int)):Option (Int×Int×Int×Int×Int×Int×Int×Int×List Int×List E11×List (Int×Int×Int×Int)×Unit) :=
 Option.bind (f95 a20 a4 a5) fun y0 =>
 bif y0.1 != 5 then
 some ((a12,a13,a14,a15,a16,a17,a18,a19,a20,a21,a22,()))
 else
 bif inRange a0 4 then
 bif decide (List.getD [a16,a17,a18,a19] (Int.toNat a0) 0 < 5) then
 some ((a12,a13,a14,a15,a16,a17,a18,a19,a20,a21,a22,()))
 else
 f181.L1 ((a0,0,a12,a13,a14,a15,a16,a17,a18,a19,a20,a21,a22,()))
 else
 none
def f181.ins:Shape:=⟨[(0,.c (.ptr 0 0)),(1,n6),(2,eS)],[(0,.box [.int .i64,.int .i64,.int .i64,.int .i64,.own 1,.own 2,.own 3,.int .i64,.int .i64,.int .i64,.int .i64]),(1,.arr (.int .u8)),(2,.arr tE),(3,.arr tI)]⟩
def f181.outs:List Shape:=[⟨[],[(0,.box [.int .i64,.int .i64,.int .i64,.int .i64,.own 1,.own 2,.own 3,.int .i64,.int .i64,.int .i64,.int .i64]),(1,.arr (.int .u8)),(2,.arr tE),(3,.arr tI)]⟩]
def f181.S:FnSpec:=⟨f181.ins,f181.outs,[0,1,2,3],fun x=>f181 x.1 x.2.1 x.2.2.1 x.2.2.2.1 x.2.2.2.2.1 x.2.2.2.2.2.1 x.2.2.2.2.2.2.1 x.2.2.2.2.2.2.2.1 x.2.2.2.2.2.2.2.2.1 x.2.2.2.2.2.2.2.2.2.1 x.2.2.2.2.2.2.2.2.2.2.1 x.2.2.2.2.2.2.2.2.2.2.2.1 x.2.2.2.2.2.2.2.2.2.2.2.2.1 x.2.2.2.2.2.2.2.2.2.2.2.2.2.1 x.2.2.2.2.2.2.2.2.2.2.2.2.2.2.1 x.2.2.2.2.2.2.2.2.2.2.2.2.2.2.2.1 x.2.2.2.2.2.2.2.2.2.2.2.2.2.2.2.2.1 x.2.2.2.2.2.2.2.2.2.2.2.2.2.2.2.2.2.1 x.2.2.2.2.2.2.2.2.2.2.2.2.2.2.2.2.2.2.1 x.2.2.2.2.2.2.2.2.2.2.2.2.2.2.2.2.2.2.2.1 x.2.2.2.2.2.2.2.2.2.2.2.2.2.2.2.2.2.2.2.2.1 x.2.2.2.2.2.2.2.2.2.2.2.2.2.2.2.2.2.2.2.2.2.1 x.2.2.2.2.2.2.2.2.2.2.2.2.2.2.2.2.2.2.2.2.2.2.1⟩
def f181.E (fuel:Nat):Env:=⟨tisB,[(95,f95.S),(186,f186.S),(189,f189_1.S)],[],[],[(4,⟨[(0,.c (.ptr 0 0)),(1,n6),(27,n6)],[(0,.box [.int .i64,.int .i64,.int .i64,.int .i64,.own 1,.own 2,.own 3,.int .i64,.int .i64,.int .i64,.int .i64]),(1,.arr (.int .u8)),(2,.arr tE),(3,.arr tI)]⟩)],[],4,[0,1,2,3],fuel⟩
theorem f181.run:RunOk f181.E Go.Proofs.Tryz.f181 f181.S:=by intro x;kernel_rfl
theorem f181.sound:Sound Go.Proofs.Tryz.prog 181 f181.S:=sound_of_run (fun _=>f181.E 100000000000000000000) (by kernel_rfl) (by kernel_rfl) (by kernel_rfl) ordersB (fun _=>⟨tisB_ok,EqsOk.nil _,(fc f95.sound (fc f186.sound (fc f189_1.sound FnsOk.nil)))⟩) (fun _=>rfl) (by kernel_rfl) (by kernel_rfl) (fun x r h=>(f181.run x).trans h)
/-! f159: adit/goods.Do -/
def f159 (a0:Int) (a1:Int) (a2:Int) (a3:Int) (a4:List Int) (a5:List E11) (a6:List (Int×Int×Int×Int)) (a7:Int) (a8:Int) (a9:Int) (a10:Int) (a11:Int) (a12:Int):Option (Int×Int×Int×Int×Int×Int×Int×Int×List Int×List E11×List (Int×Int×Int×Int)×Unit) :=
 Option.bind (f176 a0 a1 a2 a3 a4 a5 a6 a7 a8 a9 a10) fun y0 =>
 Option.bind (f97 y0.2.2.2.2.2.2.2.2.2.1 a11) fun y1 =>
 bif decide (y1.1 < 0) then
 some ((y0.1,y0.2.1,y0.2.2.1,y0.2.2.2.1,y0.2.2.2.2.1,y0.2.2.2.2.2.1,y0.2.2.2.2.2.2.1,y0.2.2.2.2.2.2.2.1,y0.2.2.2.2.2.2.2.2.1,y0.2.2.2.2.2.2.2.2.2.1,y0.2.2.2.2.2.2.2.2.2.2.1,()))
 else
 bif decide (a11 < 0) then
 some ((y0.1,y0.2.1,y0.2.2.1,y0.2.2.2.1,y0.2.2.2.2.1,y0.2.2.2.2.2.1,y0.2.2.2.2.2.2.1,y0.2.2.2.2.2.2.2.1,y0.2.2.2.2.2.2.2.2.1,y0.2.2.2.2.2.2.2.2.2.1,y0.2.2.2.2.2.2.2.2.2.2.1,()))
 else
 bif decide (a11 ≥ 4) then
 some ((y0.1,y0.2.1,y0.2.2.1,y0.2.2.2.1,y0.2.2.2.2.1,y0.2.2.2.2.2.1,y0.2.2.2.2.2.2.1,y0.2.2.2.2.2.2.2.1,y0.2.2.2.2.2.2.2.2.1,y0.2.2.2.2.2.2.2.2.2.1,y0.2.2.2.2.2.2.2.2.2.2.1,()))
 else
 bif inRange y1.1 (List.length y0.2.2.2.2.2.2.2.2.2.1) then
 Option.bind (α:=Int×Int×Int×Int×Int×Int×Int×Int×Int×Int×Int×Int×Int×Int×Int×Int×List Int×List E11×List (Int×Int×Int×Int)×Unit ⊕ Int×Int×Int×Int×Int×Int×Int×Int×List Int×List E11×List (Int×Int×Int×Int)×Unit) (
 bif a12 == 5 then
 Option.bind (f177 a11 (List.getD y0.2.2.2.2.2.2.2.2.2.1 (Int.toNat y1.1) (0,0,0,0,0,0,0,0,0,0,0)).1 (List.getD y0.2.2.2.2.2.2.2.2.2.1 (Int.toNat y1.1) (0,0,0,0,0,0,0,0,0,0,0)).2.1 (List.getD y0.2.2.2.2.2.2.2.2.2.1 (Int.toNat y1.1) (0,0,0,0,0,0,0,0,0,0,0)).2.2.1 (List.getD y0.2.2.2.2.2.2.2.2.2.1 (Int.toNat y1.1) (0,0,0,0,0,0,0,0,0,0,0)).2.2.2.1 (List.getD y0.2.2.2.2.2.2.2.2.2.1 (Int.toNat y1.1) (0,0,0,0,0,0,0,0,0,0,0)).2.2.2.2.1 (List.getD y0.2.2.2.2.2.2.2.2.2.1 (Int.toNat y1.1) (0,0,0,0,0,0,0,0,0,0,0)).2.2.2.2.2.1 (List.getD y0.2.2.2.2.2.2.2.2.2.1 (Int.toNat y1.1) (0,0,0,0,0,0,0,0,0,0,0)).2.2.2.2.2.2.1 (List.getD y0.2.2.2.2.2.2.2.2.2.1 (Int.toNat y1.1) (0,0,0,0,0,0,0,0,0,0,0)).2.2.2.2.2.2.2.1 (List.getD y0.2.2.2.2.2.2.2.2.2.1 (Int.toNat y1.1) (0,0,0,0,0,0,0,0,0,0,0)).2.2.2.2.2.2.2.2.1 (List.getD y0.2.2.2.2.2.2.2.2.2.1 (Int.toNat y1.1) (0,0,0,0,0,0,0,0,0,0,0)).2.2.2.2.2.2.2.2.2.1 (List.getD y0.2.2.2.2.2.2.2.2.2.1 (Int.toNat y1.1) (0,0,0,0,0,0,0,0,0,0,0)).2.2.2.2.2.2.2.2.2.2 y0.1 y0.2.1 y0.2.2.1 y0.2.2.2.1 y0.2.2.2.2.1 y0.2.2.2.2.2.1 y0.2.2.2.2.2.2.1 y0.2.2.2.2.2.2.2.1 y0.2.2.2.2.2.2.2.2.1 y0.2.2.2.2.2.2.2.2.2.1 y0.2.2.2.2.2.2.2.2.2.2.1) fun y5 =>
 some (Sum.inl (y5.1,y5.2.1,y5.2.2.1,y5.2.2.2.1,y5.2.2.2.2.1,y5.2.2.2.2.2.1,y5.2.2.2.2.2.2.1,y5.2.2.2.2.2.2.2.1,0,0,0,0,0,0,0,0,y5.2.2.2.2.2.2.2.2.1,y5.2.2.2.2.2.2.2.2.2.1,y5.2.2.2.2.2.2.2.2.2.2.1,()))
 else
 bif a12 == 6 then
 Option.bind (f178 y0.1 y0.2.1 y0.2.2.1 y0.2.2.2.1 y0.2.2.2.2.2.2.2.2.1 y0.2.2.2.2.2.2.2.2.2.1 y0.2.2.2.2.2.2.2.2.2.2.1 y0.2.2.2.2.1 y0.2.2.2.2.2.1 y0.2.2.2.2.2.2.1 y0.2.2.2.2.2.2.2.1 a11 [1]) fun y6 =>
 bif decide (y6.1 ≥ 0) then
 bif inRange y6.1 (List.length y0.2.2.2.2.2.2.2.2.2.2.1) then
 let s0:List E11:=List.set y0.2.2.2.2.2.2.2.2.2.1 (Int.toNat y1.1) ((List.getD y0.2.2.2.2.2.2.2.2.2.1 (Int.toNat y1.1) (0,0,0,0,0,0,0,0,0,0,0)).1,(List.getD y0.2.2.2.2.2.2.2.2.2.1 (Int.toNat y1.1) (0,0,0,0,0,0,0,0,0,0,0)).2.1,(List.getD y0.2.2.2.2.2.2.2.2.2.1 (Int.toNat y1.1) (0,0,0,0,0,0,0,0,0,0,0)).2.2.1,(List.getD y0.2.2.2.2.2.2.2.2.2.1 (Int.toNat y1.1) (0,0,0,0,0,0,0,0,0,0,0)).2.2.2.1,(List.getD y0.2.2.2.2.2.2.2.2.2.1 (Int.toNat y1.1) (0,0,0,0,0,0,0,0,0,0,0)).2.2.2.2.1,minI (IntKind.wrap .i64 ((List.getD y0.2.2.2.2.2.2.2.2.2.1 (Int.toNat y1.1) (0,0,0,0,0,0,0,0,0,0,0)).2.2.2.2.2.1 + 6)) (List.getD y0.2.2.2.2.2.2.2.2.2.1 (Int.toNat y1.1) (0,0,0,0,0,0,0,0,0,0,0)).2.2.2.2.2.2.1,(List.getD y0.2.2.2.2.2.2.2.2.2.1 (Int.toNat y1.1) (0,0,0,0,0,0,0,0,0,0,0)).2.2.2.2.2.2.1,(List.getD y0.2.2.2.2.2.2.2.2.2.1 (Int.toNat y1.1) (0,0,0,0,0,0,0,0,0,0,0)).2.2.2.2.2.2.2.1,(List.getD y0.2.2.2.2.2.2.2.2.2.1 (Int.toNat y1.1) (0,0,0,0,0,0,0,0,0,0,0)).2.2.2.2.2.2.2.2.1,(List.getD y0.2.2.2.2.2.2.2.2.2.1 (Int.toNat y1.1) (0,0,0,0,0,0,0,0,0,0,0)).2.2.2.2.2.2.2.2.2.1,(List.getD y0.2.2.2.2.2.2.2.2.2.1 (Int.toNat y1.1) (0,0,0,0,0,0,0,0,0,0,0)).2.2.2.2.2.2.2.2.2.2)
 let s1:List E11:=List.set s0 (Int.toNat y1.1) ((List.getD s0 (Int.toNat y1.1) (0,0,0,0,0,0,0,0,0,0,0)).1,(List.getD s0 (Int.toNat y1.1) (0,0,0,0,0,0,0,0,0,0,0)).2.1,(List.getD s0 (Int.toNat y1.1) (0,0,0,0,0,0,0,0,0,0,0)).2.2.1,(List.getD s0 (Int.toNat y1.1) (0,0,0,0,0,0,0,0,0,0,0)).2.2.2.1,(List.getD s0 (Int.toNat y1.1) (0,0,0,0,0,0,0,0,0,0,0)).2.2.2.2.1,(List.getD s0 (Int.toNat y1.1) (0,0,0,0,0,0,0,0,0,0,0)).2.2.2.2.2.1,(List.getD s0 (Int.toNat y1.1) (0,0,0,0,0,0,0,0,0,0,0)).2.2.2.2.2.2.1,(List.getD s0 (Int.toNat y1.1) (0,0,0,0,0,0,0,0,0,0,0)).2.2.2.2.2.2.2.1,(List.getD s0 (Int.toNat y1.1) (0,0,0,0,0,0,0,0,0,0,0)).2.2.2.2.2.2.2.2.1,0,(List.getD s0 (Int.toNat y1.1) (0,0,0,0,0,0,0,0,0,0,0)).2.2.2.2.2.2.2.2.2.2)
 some (Sum.inl (y0.1,y0.2.1,y0.2.2.1,y0.2.2.2.1,y0.2.2.2.2.1,y0.2.2.2.2.2.1,y0.2.2.2.2.2.2.1,y0.2.2.2.2.2.2.2.1,0,0,0,0,0,0,0,0,y0.2.2.2.2.2.2.2.2.1,s1,List.set y0.2.2.2.2.2.2.2.2.2.2.1 (Int.toNat y6.1) (0,0,0,0),()))
 else
 none
 else
 some (Sum.inl (y0.1,y0.2.1,y0.2.2.1,y0.2.2.2.1,y0.2.2.2.2.1,y0.2.2.2.2.2.1,y0.2.2.2.2.2.2.1,y0.2.2.2.2.2.2.2.1,0,0,0,0,0,0,0,0,y0.2.2.2.2.2.2.2.2.1,y0.2.2.2.2.2.2.2.2.2.1,y0.2.2.2.2.2.2.2.2.2.2.1,()))
 else
 bif a12 == 7 then
 Option.bind (f179 y0.1 y0.2.1 y0.2.2.1 y0.2.2.2.1 y0.2.2.2.2.1 y0.2.2.2.2.2.1 y0.2.2.2.2.2.2.1 y0.2.2.2.2.2.2.2.1 a11 y0.2.2.2.2.2.2.2.2.1 y0.2.2.2.2.2.2.2.2.2.1 y0.2.2.2.2.2.2.2.2.2.2.1) fun y7 =>
 some (Sum.inl (y0.1,y0.2.1,y0.2.2.1,y0.2.2.2.1,y0.2.2.2.2.1,y0.2.2.2.2.2.1,y0.2.2.2.2.2.2.1,y0.2.2.2.2.2.2.2.1,0,0,0,0,0,0,0,0,y7.1,y7.2.1,y7.2.2.1,()))
 else
 bif a12 == 8 then
 Option.bind (f178 y0.1 y0.2.1 y0.2.2.1 y0.2.2.2.1 y0.2.2.2.2.2.2.2.2.1 y0.2.2.2.2.2.2.2.2.2.1 y0.2.2.2.2.2.2.2.2.2.2.1 y0.2.2.2.2.1 y0.2.2.2.2.2.1 y0.2.2.2.2.2.2.1 y0.2.2.2.2.2.2.2.1 a11 [1,2,3,4]) fun y8 =>
 Option.bind (α:=Nat×Int×Bool×Int×Int×Int×Int×Int×Int×Int×Int×Int×Int×Int×Int×Int×Int×Int×Int×List E11×List Int×List (Int×Int×Int×Int)×Unit ⊕ Int×Int×Int×Int×Int×Int×Int×Int×Int×Int×Int×Int×Int×Int×Int×Int×List Int×List E11×List (Int×Int×Int×Int)×Unit ⊕ Int×Int×Int×Int×Int×Int×Int×Int×List Int×List E11×List (Int×Int×Int×Int)×Unit) (
 bif decide (y8.1 ≥ 0) then
 Option.bind (f180 y0.1 y0.2.1 y0.2.2.1 y0.2.2.2.1 y0.2.2.2.2.2.2.2.2.1 y0.2.2.2.2.2.2.2.2.2.1 y0.2.2.2.2.2.2.2.2.2.2.1 y0.2.2.2.2.1 y0.2.2.2.2.2.1 y0.2.2.2.2.2.2.1 y0.2.2.2.2.2.2.2.1 1 (List.getD y0.2.2.2.2.2.2.2.2.2.1 (Int.toNat y1.1) (0,0,0,0,0,0,0,0,0,0,0)).2.2.2.1 (List.getD y0.2.2.2.2.2.2.2.2.2.1 (Int.toNat y1.1) (0,0,0,0,0,0,0,0,0,0,0)).2.2.2.2.1) fun y12 =>
 some (Sum.inl (Int.toNat y1.1,y8.1,decide (y12.1 < 0),y0.1,y0.2.1,y0.2.2.1,y0.2.2.2.1,y0.2.2.2.2.1,y0.2.2.2.2.2.1,y0.2.2.2.2.2.2.1,y0.2.2.2.2.2.2.2.1,0,0,0,0,0,0,0,0,y0.2.2.2.2.2.2.2.2.2.1,y0.2.2.2.2.2.2.2.2.1,y0.2.2.2.2.2.2.2.2.2.2.1,()))
 else
 some (Sum.inl (Int.toNat y1.1,y8.1,Bool.false,y0.1,y0.2.1,y0.2.2.1,y0.2.2.2.1,y0.2.2.2.2.1,y0.2.2.2.2.2.1,y0.2.2.2.2.2.2.1,y0.2.2.2.2.2.2.2.1,0,0,0,0,0,0,0,0,y0.2.2.2.2.2.2.2.2.2.1,y0.2.2.2.2.2.2.2.2.1,y0.2.2.2.2.2.2.2.2.2.2.1,()))
 ) fun y9 =>
 Sum.elim (fun y10=>match y10 with
 | (u10_0,u10_1,u10_2,u10_3,u10_4,u10_5,u10_6,u10_7,u10_8,u10_9,u10_10,u10_11,u10_12,u10_13,u10_14,u10_15,u10_16,u10_17,u10_18,u10_19,u10_20,u10_21,_) =>
 bif u10_2 then
 bif inRange u10_1 (List.length u10_21) then
 let s0:List (Int×Int×Int×Int):=List.set u10_21 (Int.toNat u10_1) ((List.getD u10_21 (Int.toNat u10_1) (0,0,0,0)).1,1,(List.getD u10_21 (Int.toNat u10_1) (0,0,0,0)).2.2.1,(List.getD u10_21 (Int.toNat u10_1) (0,0,0,0)).2.2.2)
 let s1:List (Int×Int×Int×Int):=List.set s0 (Int.toNat u10_1) ((List.getD s0 (Int.toNat u10_1) (0,0,0,0)).1,(List.getD s0 (Int.toNat u10_1) (0,0,0,0)).2.1,(List.getD u10_19 u10_0 (0,0,0,0,0,0,0,0,0,0,0)).2.2.2.1,(List.getD s0 (Int.toNat u10_1) (0,0,0,0)).2.2.2)
 let s2:List (Int×Int×Int×Int):=List.set s1 (Int.toNat u10_1) ((List.getD s1 (Int.toNat u10_1) (0,0,0,0)).1,(List.getD s1 (Int.toNat u10_1) (0,0,0,0)).2.1,(List.getD s1 (Int.toNat u10_1) (0,0,0,0)).2.2.1,(List.getD u10_19 u10_0 (0,0,0,0,0,0,0,0,0,0,0)).2.2.2.2.1)
 some (Sum.inl (u10_3,u10_4,u10_5,u10_6,u10_7,u10_8,u10_9,u10_10,u10_11,u10_12,u10_13,u10_14,u10_15,u10_16,u10_17,u10_18,u10_20,u10_19,s2,()))
 else
 none
 else
 some (Sum.inl (u10_3,u10_4,u10_5,u10_6,u10_7,u10_8,u10_9,u10_10,u10_11,u10_12,u10_13,u10_14,u10_15,u10_16,u10_17,u10_18,u10_20,u10_19,u10_21,()))
 ) (fun z11 =>
 some (z11)
 ) (y9)
 else
 bif a12 == 10 then
 Option.bind (f181 a11 (List.getD y0.2.2.2.2.2.2.2.2.2.1 (Int.toNat y1.1) (0,0,0,0,0,0,0,0,0,0,0)).1 (List.getD y0.2.2.2.2.2.2.2.2.2.1 (Int.toNat y1.1) (0,0,0,0,0,0,0,0,0,0,0)).2.1 (List.getD y0.2.2.2.2.2.2.2.2.2.1 (Int.toNat y1.1) (0,0,0,0,0,0,0,0,0,0,0)).2.2.1 (List.getD y0.2.2.2.2.2.2.2.2.2.1 (Int.toNat y1.1) (0,0,0,0,0,0,0,0,0,0,0)).2.2.2.1 (List.getD y0.2.2.2.2.2.2.2.2.2.1 (Int.toNat y1.1) (0,0,0,0,0,0,0,0,0,0,0)).2.2.2.2.1 (List.getD y0.2.2.2.2.2.2.2.2.2.1 (Int.toNat y1.1) (0,0,0,0,0,0,0,0,0,0,0)).2.2.2.2.2.1 (List.getD y0.2.2.2.2.2.2.2.2.2.1 (Int.toNat y1.1) (0,0,0,0,0,0,0,0,0,0,0)).2.2.2.2.2.2.1 (List.getD y0.2.2.2.2.2.2.2.2.2.1 (Int.toNat y1.1) (0,0,0,0,0,0,0,0,0,0,0)).2.2.2.2.2.2.2.1 (List.getD y0.2.2.2.2.2.2.2.2.2.1 (Int.toNat y1.1) (0,0,0,0,0,0,0,0,0,0,0)).2.2.2.2.2.2.2.2.1 (List.getD y0.2.2.2.2.2.2.2.2.2.1 (Int.toNat y1.1) (0,0,0,0,0,0,0,0,0,0,0)).2.2.2.2.2.2.2.2.2.1 (List.getD y0.2.2.2.2.2.2.2.2.2.1 (Int.toNat y1.1) (0,0,0,0,0,0,0,0,0,0,0)).2.2.2.2.2.2.2.2.2.2 y0.1 y0.2.1 y0.2.2.1 y0.2.2.2.1 y0.2.2.2.2.1 y0.2.2.2.2.2.1 y0.2.2.2.2.2.2.1 y0.2.2.2.2.2.2.2.1 y0.2.2.2.2.2.2.2.2.1 y0.2.2.2.2.2.2.2.2.2.1 y0.2.2.2.2.2.2.2.2.2.2.1) fun y13 =>
 some (Sum.inl (y13.1,y13.2.1,y13.2.2.1,y13.2.2.2.1,y13.2.2.2.2.1,y13.2.2.2.2.2.1,y13.2.2.2.2.2.2.1,y13.2.2.2.2.2.2.2.1,0,0,0,0,0,0,0,0,y13.2.2.2.2.2.2.2.2.1,y13.2.2.2.2.2.2.2.2.2.1,y13.2.2.2.2.2.2.2.2.2.2.1,()))
 else
 some (Sum.inl (y0.1,y0.2.1,y0.2.2.1,y0.2.2.2.1,y0.2.2.2.2.1,y0.2.2.2.2.2.1,y0.2.2.2.2.2.2.1,y0.2.2.2.2.2.2.2.1,0,0,0,0,0,0,0,0,y0.2.2.2.2.2.2.2.2.1,y0.2.2.2.2.2.2.2.2.2.1,y0.2.2.2.2.2.2.2.2.2.2.1,()))
 ) fun y2 =>
 Sum.elim (fun y3=>match y3 with
 | (u3_0,u3_1,u3_2,u3_3,u3_4,u3_5,u3_6,u3_7,_,_,_,_,_,_,_,_,u3_16,u3_17,u3_18,_) =>
 some ((u3_0,u3_1,u3_2,u3_3,u3_4,u3_5,u3_6,u3_7,u3_16,u3_17,u3_18,()))
 ) (fun z4 =>
 some (z4)
 ) (y2)
 else
 none
def f159.ins:Shape:=⟨[(0,wS),(1,n6),(2,n6)],[]⟩
def f159.outs:List Shape:=[⟨[(0,.agg [.int .i64,.int .i64,.int .i64,.int .i64,.own 0,.own 1,.own 2,.int .i64,.int .i64,.int .i64,.int .i64])],[(0,.arr (.int .u8)),(1,.arr tE),(2,.arr tI)]⟩]
def f159.S:FnSpec:=⟨f159.ins,f159.outs,[],fun x=>f159 x.1 x.2.1 x.2.2.1 x.2.2.2.1 x.2.2.2.2.1 x.2.2.2.2.2.1 x.2.2.2.2.2.2.1 x.2.2.2.2.2.2.2.1 x.2.2.2.2.2.2.2.2.1 x.2.2.2.2.2.2.2.2.2.1 x.2.2.2.2.2.2.2.2.2.2.1 x.2.2.2.2.2.2.2.2.2.2.2.1 x.2.2.2.2.2.2.2.2.2.2.2.2.1⟩
def f159.E (fuel:Nat):Env:=⟨tisB,[(97,f97.S),(180,f180.S),(176,f176.S),(177,f177.S),(178,f178.S),(179,f179.S),(181,f181.S)],[],[(20,⟨[(3,.c (.ptr 0 0)),(6,.c (.ptr 1 0)),(8,.c (.eptr 2 0)),(10,n6),(95,.c (.bool))],[(0,.box [.int .i64,.int .i64,.int .i64,.int .i64,.own 3,.own 2,.own 4,.int .i64,.int .i64,.int .i64,.int .i64]),(1,.box [.int .i64,.int .i64,.int .i64,.int .i64,.nils,.nils,.nils,.int .i64,.int .i64,.int .i64,.int .i64]),(2,.arr tE),(3,.arr (.int .u8)),(4,.arr tI)]⟩),(24,⟨[(3,.c (.ptr 0 0)),(6,.c (.ptr 1 0))],[(0,.box [.int .i64,.int .i64,.int .i64,.int .i64,.own 2,.own 3,.own 4,.int .i64,.int .i64,.int .i64,.int .i64]),(1,.box [.int .i64,.int .i64,.int .i64,.int .i64,.nils,.nils,.nils,.int .i64,.int .i64,.int .i64,.int .i64]),(2,.arr (.int .u8)),(3,.arr tE),(4,.arr tI)]⟩)],[],[],0,[],fuel⟩
theorem f159.run:RunOk f159.E Go.Proofs.Tryz.f159 f159.S:=by intro x;kernel_rfl
theorem f159.sound:Sound Go.Proofs.Tryz.prog 159 f159.S:=sound_of_run (fun _=>f159.E 100000000000000000000) (by kernel_rfl) (by kernel_rfl) (by kernel_rfl) ordersB (fun _=>⟨tisB_ok,EqsOk.nil _,(fc f97.sound (fc f180.sound (fc f176.sound (fc f177.sound (fc f178.sound (fc f179.sound (fc f181.sound FnsOk.nil)))))))⟩) (fun _=>rfl) (by kernel_rfl) (by kernel_rfl) (fun x r h=>(f159.run x).trans h)
/-! f110: (*adit/crawl.maker).act -/
def f110 (a0:Int) (a1:Int) (a2:Int) (a3:Int) (a4:Int) (a5:Int) (a6:Int) (a7:Int) (a8:Int) (a9:Int) (a10:Int) (a11:Bool) (a12:Bool) (a13:List Int) (a14:List E11) (a15:List (Int×Int×Int×Int)):Option (Int×Int×Int×Int×Int×Int×Int×Int×Bool×Bool×List Int×List E11×List (Int×Int×Int×Int)×Unit) :=
 bif inRange a1 (List.length a14) then
 Option.bind (α:=Int×Int×Int×Bool×Int×Int×Int×Int×Int×Int×Int×Int×Bool×Bool×Int×Int×Int×Int×Int×Int×Int×Int×Int×Int×Int×List Int×List E11×List (Int×Int×Int×Int)×Unit ⊕ Int×Int×Int×Int×Int×Int×Int×Int×Bool×Bool×List Int×List E11×List (Int×Int×Int×Int)×Unit) (
 bif decide (a2 ≥ 1) then
 some (Sum.inl (a0,a1,a2,decide (a2 ≤ 4),a3,a4,a5,a6,a7,a8,a9,a10,a11,a12,(List.getD a14 (Int.toNat a1) (0,0,0,0,0,0,0,0,0,0,0)).1,(List.getD a14 (Int.toNat a1) (0,0,0,0,0,0,0,0,0,0,0)).2.1,(List.getD a14 (Int.toNat a1) (0,0,0,0,0,0,0,0,0,0,0)).2.2.1,(List.getD a14 (Int.toNat a1) (0,0,0,0,0,0,0,0,0,0,0)).2.2.2.1,(List.getD a14 (Int.toNat a1) (0,0,0,0,0,0,0,0,0,0,0)).2.2.2.2.1,(List.getD a14 (Int.toNat a1) (0,0,0,0,0,0,0,0,0,0,0)).2.2.2.2.2.1,(List.getD a14 (Int.toNat a1) (0,0,0,0,0,0,0,0,0,0,0)).2.2.2.2.2.2.1,(List.getD a14 (Int.toNat a1) (0,0,0,0,0,0,0,0,0,0,0)).2.2.2.2.2.2.2.1,(List.getD a14 (Int.toNat a1) (0,0,0,0,0,0,0,0,0,0,0)).2.2.2.2.2.2.2.2.1,(List.getD a14 (Int.toNat a1) (0,0,0,0,0,0,0,0,0,0,0)).2.2.2.2.2.2.2.2.2.1,(List.getD a14 (Int.toNat a1) (0,0,0,0,0,0,0,0,0,0,0)).2.2.2.2.2.2.2.2.2.2,a13,a14,a15,()))
 else
 some (Sum.inl (a0,a1,a2,Bool.false,a3,a4,a5,a6,a7,a8,a9,a10,a11,a12,(List.getD a14 (Int.toNat a1) (0,0,0,0,0,0,0,0,0,0,0)).1,(List.getD a14 (Int.toNat a1) (0,0,0,0,0,0,0,0,0,0,0)).2.1,(List.getD a14 (Int.toNat a1) (0,0,0,0,0,0,0,0,0,0,0)).2.2.1,(List.getD a14 (Int.toNat a1) (0,0,0,0,0,0,0,0,0,0,0)).2.2.2.1,(List.getD a14 (Int.toNat a1) (0,0,0,0,0,0,0,0,0,0,0)).2.2.2.2.1,(List.getD a14 (Int.toNat a1) (0,0,0,0,0,0,0,0,0,0,0)).2.2.2.2.2.1,(List.getD a14 (Int.toNat a1) (0,0,0,0,0,0,0,0,0,0,0)).2.2.2.2.2.2.1,(List.getD a14 (Int.toNat a1) (0,0,0,0,0,0,0,0,0,0,0)).2.2.2.2.2.2.2.1,(List.getD a14 (Int.toNat a1) (0,0,0,0,0,0,0,0,0,0,0)).2.2.2.2.2.2.2.2.1,(List.getD a14 (Int.toNat a1) (0,0,0,0,0,0,0,0,0,0,0)).2.2.2.2.2.2.2.2.2.1,(List.getD a14 (Int.toNat a1) (0,0,0,0,0,0,0,0,0,0,0)).2.2.2.2.2.2.2.2.2.2,a13,a14,a15,()))
 ) fun y0 =>
 Sum.elim (fun y1=>match y1 with
 | (u1_0,u1_1,u1_2,u1_3,u1_4,u1_5,u1_6,u1_7,u1_8,u1_9,u1_10,u1_11,u1_12,u1_13,_,_,_,u1_17,u1_18,_,_,_,_,_,_,u1_25,u1_26,u1_27,_) =>
 bif u1_3 then
 Option.bind (f112 u1_1 u1_2 u1_4 u1_5 u1_6 u1_7 u1_8 u1_9 u1_10 u1_11 u1_12 u1_13 u1_25 u1_26 u1_27) fun y3 =>
 some ((y3.1,y3.2.1,y3.2.2.1,y3.2.2.2.1,y3.2.2.2.2.1,y3.2.2.2.2.2.1,y3.2.2.2.2.2.2.1,y3.2.2.2.2.2.2.2.1,y3.2.2.2.2.2.2.2.2.1,y3.2.2.2.2.2.2.2.2.2.1,y3.2.2.2.2.2.2.2.2.2.2.1,y3.2.2.2.2.2.2.2.2.2.2.2.1,y3.2.2.2.2.2.2.2.2.2.2.2.2.1,()))
 else
 bif u1_2 == 9 then
 bif u1_13 then
 some ((u1_4,u1_5,u1_6,u1_7,u1_8,u1_9,u1_10,u1_11,u1_12,Bool.true,u1_25,u1_26,u1_27,()))
 else
 Option.bind (f95 u1_25 u1_17 u1_18) fun y4 =>
 some ((u1_4,u1_5,u1_6,u1_7,u1_8,u1_9,u1_10,u1_11,u1_12,y4.1 == 4,u1_25,u1_26,u1_27,()))
 else
 bif decide (u1_2 > 4) then
 bif decide (u1_2 ≤ 10) then
 Option.bind (f159 u1_4 u1_5 u1_6 u1_7 u1_25 u1_26 u1_27 u1_8 u1_9 u1_10 u1_11 u1_0 u1_2) fun y5 =>
 some ((y5.1,y5.2.1,y5.2.2.1,y5.2.2.2.1,y5.2.2.2.2.1,y5.2.2.2.2.2.1,y5.2.2.2.2.2.2.1,y5.2.2.2.2.2.2.2.1,u1_12,u1_13,y5.2.2.2.2.2.2.2.2.1,y5.2.2.2.2.2.2.2.2.2.1,y5.2.2.2.2.2.2.2.2.2.2.1,()))
 else
 some ((u1_4,u1_5,u1_6,u1_7,u1_8,u1_9,u1_10,u1_11,u1_12,u1_13,u1_25,u1_26,u1_27,()))
 else
 some ((u1_4,u1_5,u1_6,u1_7,u1_8,u1_9,u1_10,u1_11,u1_12,u1_13,u1_25,u1_26,u1_27,()))
 ) (fun z2 =>
 some (z2)
 ) (y0)
 else
 none
def f110.ins:Shape:=⟨[(0,.c (.ptr 0 0)),(1,n6),(2,n6),(3,n6)],[(0,.box [.int .i64,.int .i64,.int .i64,.int .i64,.own 1,.own 2,.own 3,.int .i64,.int .i64,.int .i64,.int .i64,.bool,.bool]),(1,.arr (.int .u8)),(2,.arr tE),(3,.arr tI)]⟩
def f110.outs:List Shape:=[⟨[],[(0,.box [.int .i64,.int .i64,.int .i64,.int .i64,.own 4,.own 5,.own 6,.int .i64,.int .i64,.int .i64,.int .i64,.bool,.bool]),(4,.arr (.int .u8)),(5,.arr tE),(6,.arr tI)]⟩]
def f110.S:FnSpec:=⟨f110.ins,f110.outs,[0],fun x=>f110 x.1 x.2.1 x.2.2.1 x.2.2.2.1 x.2.2.2.2.1 x.2.2.2.2.2.1 x.2.2.2.2.2.2.1 x.2.2.2.2.2.2.2.1 x.2.2.2.2.2.2.2.2.1 x.2.2.2.2.2.2.2.2.2.1 x.2.2.2.2.2.2.2.2.2.2.1 x.2.2.2.2.2.2.2.2.2.2.2.1 x.2.2.2.2.2.2.2.2.2.2.2.2.1 x.2.2.2.2.2.2.2.2.2.2.2.2.2.1 x.2.2.2.2.2.2.2.2.2.2.2.2.2.2.1 x.2.2.2.2.2.2.2.2.2.2.2.2.2.2.2.1⟩
def f110.E (fuel:Nat):Env:=⟨tisB,[(95,f95.S),(112,f112.S),(159,f159.S)],[],[(3,⟨[(0,.c (.ptr 0 0)),(1,n6),(2,n6),(3,n6),(8,.c (.ptr 4 0)),(17,.c (.bool))],[(0,.box [.int .i64,.int .i64,.int .i64,.int .i64,.own 5,.own 6,.own 7,.int .i64,.int .i64,.int .i64,.int .i64,.bool,.bool]),(4,.box [.int .i64,.int .i64,.int .i64,.int .i64,.int .i64,.int .i64,.int .i64,.int .i64,.int .i64,.int .i64,.int .i64]),(5,.arr (.int .u8)),(6,.arr tE),(7,.arr tI)]⟩)],[],[],4,[0],fuel⟩
theorem f110.run:RunOk f110.E Go.Proofs.Tryz.f110 f110.S:=by intro x;kernel_rfl
theorem f110.sound:Sound Go.Proofs.Tryz.prog 110 f110.S:=sound_of_run (fun _=>f110.E 100000000000000000000) (by kernel_rfl) (by kernel_rfl) (by kernel_rfl) ordersB (fun _=>⟨tisB_ok,EqsOk.nil _,(fc f95.sound (fc f112.sound (fc f159.sound FnsOk.nil)))⟩) (fun _=>rfl) (by kernel_rfl) (by kernel_rfl) (fun x r h=>(f110.run x).trans h)
/-! f56: (*adit/crawl.maker).seat -/
def f56 (a0:Int) (a1:Int) (a2:Int) (a3:Bool) (a4:Int) (a5:Int) (a6:Int) (a7:Int) (a8:Int) (a9:Int) (a10:Int) (a11:Int) (a12:Bool) (a13:Bool) (a14:List Int) (a15:List E11) (a16:List (Int×Int×Int×Int)):Option (Int×Int×Int×Int×Int×Int×Int×Int×Bool×Bool×List Int×List E11×List (Int×Int×Int×Int)×Unit) :=
 Option.bind (f97 a15 a0) fun y0 =>
 bif decide (y0.1 < 0) then
 some ((a4,a5,a6,a7,a8,a9,a10,a11,a12,a13,a14,a15,a16,()))
 else
 bif inRange y0.1 (List.length a15) then
 bif decide ((List.getD a15 (Int.toNat y0.1) (0,0,0,0,0,0,0,0,0,0,0)).2.2.2.2.2.2.2.2.2.2 > 0) then
 some ((a4,a5,a6,a7,a8,a9,a10,a11,a12,a13,a14,a15,a16,()))
 else
 Option.bind (α:=Int×Int×Int×Int×Int×Int×Int×Int×Int×Int×Int×Bool×Bool×List Int×List E11×List (Int×Int×Int×Int)×Unit ⊕ Int×Int×Int×Int×Int×Int×Int×Int×Bool×Bool×List Int×List E11×List (Int×Int×Int×Int)×Unit) (
 bif a1 == 2 then
 Option.bind (f22 a4 a5 a6 a7 a14 a15 a16 a8 a9 a10 a11 a0) fun y5 =>
 some (Sum.inl (a0,y0.1,y5.1,a4,a5,a6,a7,a8,a9,a10,a11,a12,a13,a14,a15,a16,()))
 else
 bif a1 == 1 then
 some (Sum.inl (a0,y0.1,a2,a4,a5,a6,a7,a8,a9,a10,a11,a12,a13,a14,a15,a16,()))
 else
 some (Sum.inr (a4,a5,a6,a7,a8,a9,a10,a11,a12,a13,a14,a15,a16,()))
 ) fun y1 =>
 Sum.elim (fun y2=>match y2 with
 | (u2_0,u2_1,u2_2,u2_3,u2_4,u2_5,u2_6,u2_7,u2_8,u2_9,u2_10,u2_11,u2_12,u2_13,u2_14,u2_15,_) =>
 Option.bind (f110 u2_0 u2_1 u2_2 u2_3 u2_4 u2_5 u2_6 u2_7 u2_8 u2_9 u2_10 u2_11 u2_12 u2_13 u2_14 u2_15) fun y4 =>
 some ((y4.1,y4.2.1,y4.2.2.1,y4.2.2.2.1,y4.2.2.2.2.1,y4.2.2.2.2.2.1,y4.2.2.2.2.2.2.1,y4.2.2.2.2.2.2.2.1,y4.2.2.2.2.2.2.2.2.1,y4.2.2.2.2.2.2.2.2.2.1,y4.2.2.2.2.2.2.2.2.2.2.1,y4.2.2.2.2.2.2.2.2.2.2.2.1,y4.2.2.2.2.2.2.2.2.2.2.2.2.1,()))
 ) (fun z3 =>
 some (z3)
 ) (y1)
 else
 none
def f56.ins:Shape:=⟨[(0,.c (.ptr 0 0)),(1,n6),(2,.agg [.int .i64,.int .i64,.bool])],[(0,.box [.int .i64,.int .i64,.int .i64,.int .i64,.own 1,.own 2,.own 3,.int .i64,.int .i64,.int .i64,.int .i64,.bool,.bool]),(1,.arr (.int .u8)),(2,.arr tE),(3,.arr tI)]⟩
def f56.outs:List Shape:=[⟨[],[(0,.box [.int .i64,.int .i64,.int .i64,.int .i64,.own 4,.own 5,.own 6,.int .i64,.int .i64,.int .i64,.int .i64,.bool,.bool]),(4,.arr (.int .u8)),(5,.arr tE),(6,.arr tI)]⟩]
def f56.S:FnSpec:=⟨f56.ins,f56.outs,[0],fun x=>f56 x.1 x.2.1 x.2.2.1 x.2.2.2.1 x.2.2.2.2.1 x.2.2.2.2.2.1 x.2.2.2.2.2.2.1 x.2.2.2.2.2.2.2.1 x.2.2.2.2.2.2.2.2.1 x.2.2.2.2.2.2.2.2.2.1 x.2.2.2.2.2.2.2.2.2.2.1 x.2.2.2.2.2.2.2.2.2.2.2.1 x.2.2.2.2.2.2.2.2.2.2.2.2.1 x.2.2.2.2.2.2.2.2.2.2.2.2.2.1 x.2.2.2.2.2.2.2.2.2.2.2.2.2.2.1 x.2.2.2.2.2.2.2.2.2.2.2.2.2.2.2.1 x.2.2.2.2.2.2.2.2.2.2.2.2.2.2.2.2.1⟩
def f56.E (fuel:Nat):Env:=⟨tisB,[(97,f97.S),(22,f22.S),(110,f110.S)],[],[(9,⟨[(0,.c (.ptr 0 0)),(1,n6),(6,n6),(7,n6)],[(0,.box [.int .i64,.int .i64,.int .i64,.int .i64,.own 4,.own 5,.own 6,.int .i64,.int .i64,.int .i64,.int .i64,.bool,.bool]),(4,.arr (.int .u8)),(5,.arr tE),(6,.arr tI)]⟩)],[],[],4,[0],fuel⟩
theorem f56.run:RunOk f56.E Go.Proofs.Tryz.f56 f56.S:=by intro x;kernel_rfl
theorem f56.sound:Sound Go.Proofs.Tryz.prog 56 f56.S:=sound_of_run (fun _=>f56.E 100000000000000000000) (by kernel_rfl) (by kernel_rfl) (by kernel_rfl) ordersB (fun _=>⟨tisB_ok,EqsOk.nil _,(fc f97.sound (fc f22.sound (fc f110.sound FnsOk.nil)))⟩) (fun _=>rfl) (by kernel_rfl) (by kernel_rfl) (fun x r h=>(f56.run x).trans h)
/-! f231: math/bits.Len64 -/
def f231 (a0:Int):Option (Int×Unit) :=
 Option.bind (α:=Int×Int×Unit ⊕ Int×Unit) (
 bif decide (a0 ≥ 4294967296) then
 some (Sum.inl (Int.fdiv a0 (2 ^ Min.min 32 (IntKind.bits IntKind.u64)),32,()))
 else
 some (Sum.inl (a0,0,()))
 ) fun y0 =>
 Sum.elim (fun y1 =>
 Option.bind (α:=Int×Int×Unit ⊕ Int×Unit) (
 bif decide (y1.1 ≥ 65536) then
 some (Sum.inl (Int.fdiv y1.1 (2 ^ Min.min 16 (IntKind.bits IntKind.u64)),IntKind.wrap .i64 (y1.2.1 + 16),()))
 else
 some (Sum.inl (y1.1,y1.2.1,()))
 ) fun y3 =>
 Sum.elim (fun y4 =>
 Option.bind (α:=Int×Int×Unit ⊕ Int×Unit) (
 bif decide (y4.1 ≥ 256) then
 some (Sum.inl (Int.fdiv y4.1 (2 ^ Min.min 8 (IntKind.bits IntKind.u64)),IntKind.wrap .i64 (y4.2.1 + 8),()))
 else
 some (Sum.inl (y4.1,y4.2.1,()))
 ) fun y6 =>
 Sum.elim (fun y7 =>
 bif inRange (IntKind.wrap .u8 y7.1) (ByteArray.size tabB0) then
 some ((IntKind.wrap .i64 (y7.2.1 + IntKind.wrap .i64 (↑(UInt8.toNat (Array.getD tabB0.data (Int.toNat (IntKind.wrap .u8 y7.1)) 0)):Int)),()))
 else
 none
 ) (fun z8 =>
 some (z8)
 ) (y6)
 ) (fun z5 =>
 some (z5)
 ) (y3)
 ) (fun z2 =>
 some (z2)
 ) (y0)
def f231.ins:Shape:=⟨[(0,.c (.int .u64))],[]⟩
def f231.outs:List Shape:=[⟨[(0,n6)],[]⟩]
def f231.S:FnSpec:=⟨f231.ins,f231.outs,[],fun x=>f231 x.1⟩
def f231.E (fuel:Nat):Env:=⟨tisB,[],[],[(5,⟨[(0,.c (.int .u64)),(2,n6)],[]⟩),(8,⟨[(0,.c (.int .u64)),(2,n6)],[]⟩),(11,⟨[(0,.c (.int .u64)),(2,n6)],[]⟩)],[],[],0,[],fuel⟩
theorem f231.run:RunOk f231.E Go.Proofs.Tryz.f231 f231.S:=by intro x;kernel_rfl
theorem f231.sound:Sound Go.Proofs.Tryz.prog 231 f231.S:=sound_of_run (fun _=>f231.E 100000000000000000000) (by kernel_rfl) (by kernel_rfl) (by kernel_rfl) ordersB (fun _=>⟨tisB_ok,EqsOk.nil _,FnsOk.nil⟩) (fun _=>rfl) (by kernel_rfl) (by kernel_rfl) (fun x r h=>(f231.run x).trans h)
/-! f228: math/bits.Len -/
def f228 (a0:Int):Option (Int×Unit) :=
 Option.bind (f231 a0) fun y0 =>
 some ((y0.1,()))
def f228.ins:Shape:=⟨[(0,.c (.int .u64))],[]⟩
def f228.outs:List Shape:=[⟨[(0,n6)],[]⟩]
def f228.S:FnSpec:=⟨f228.ins,f228.outs,[],fun x=>f228 x.1⟩
def f228.E (fuel:Nat):Env:=⟨tisB,[(231,f231.S)],[],[],[],[],0,[],fuel⟩
theorem f228.run:RunOk f228.E Go.Proofs.Tryz.f228 f228.S:=by intro x;kernel_rfl
theorem f228.sound:Sound Go.Proofs.Tryz.prog 228 f228.S:=sound_of_run (fun _=>f228.E 100000000000000000000) (by kernel_rfl) (by kernel_rfl) (by kernel_rfl) ordersB (fun _=>⟨tisB_ok,EqsOk.nil _,(fc f231.sound FnsOk.nil)⟩) (fun _=>rfl) (by kernel_rfl) (by kernel_rfl) (fun x r h=>(f228.run x).trans h)
/-! f225: adit/fix.Root -/
def f225.L1 (x:Int×Int×Int×Unit):Option (Int×Unit) :=
 it (X:=Int×Int×Int×Unit) (fun rec x =>
 bif decide (x.2.2.1 > 0) then
 bif decide (IntKind.wrap .i64 (x.2.1 + x.2.2.1) = 0) then
 none
 else
 bif decide (IntKind.wrap .i64 (x.2.1 + x.2.2.1) ≤ IntKind.wrap .i64 (Int.tdiv x.1 (IntKind.wrap .i64 (x.2.1 + x.2.2.1)))) then
 rec (x.1,IntKind.wrap .i64 (x.2.1 + x.2.2.1),Int.fdiv x.2.2.1 (2 ^ Min.min 1 (IntKind.bits IntKind.i64)),())
 else
 rec (x.1,x.2.1,Int.fdiv x.2.2.1 (2 ^ Min.min 1 (IntKind.bits IntKind.i64)),())
 else
 some ((x.2.1,()))
 ) (100000000000000000000) (x)
def f225 (a0:Int):Option (Int×Unit) :=
 bif decide (a0 < 1) then
 some ((0,()))
 else
 Option.bind (f228 (IntKind.wrap .u64 a0)) fun y0 =>
 bif decide (IntKind.wrap .i64 (Int.tdiv y0.1 2) < 0) then
 none
 else
 f225.L1 ((a0,0,IntKind.wrap .i64 (1 * 2 ^ Min.min (Int.toNat (IntKind.wrap .i64 (Int.tdiv y0.1 2))) (IntKind.bits IntKind.i64)),()))
def f225.ins:Shape:=⟨[(0,n6)],[]⟩
def f225.outs:List Shape:=[⟨[(0,n6)],[]⟩]
def f225.S:FnSpec:=⟨f225.ins,f225.outs,[],fun x=>f225 x.1⟩
def f225.E (fuel:Nat):Env:=⟨tisB,[(228,f228.S)],[],[],[(6,⟨[(0,n6),(3,n6),(4,n6)],[]⟩)],[],0,[],fuel⟩
theorem f225.run:RunOk f225.E Go.Proofs.Tryz.f225 f225.S:=by intro x;kernel_rfl
theorem f225.sound:Sound Go.Proofs.Tryz.prog 225 f225.S:=sound_of_run (fun _=>f225.E 100000000000000000000) (by kernel_rfl) (by kernel_rfl) (by kernel_rfl) ordersB (fun _=>⟨tisB_ok,EqsOk.nil _,(fc f228.sound FnsOk.nil)⟩) (fun _=>rfl) (by kernel_rfl) (by kernel_rfl) (fun x r h=>(f225.run x).trans h)
/-! f223: adit/fix.Dist -/
def f223 (a0:Int) (a1:Int):Option (Int×Unit) :=
 Option.bind (f225 (IntKind.wrap .i64 (65536 * IntKind.wrap .i64 (IntKind.wrap .i64 (a0 * a0) + IntKind.wrap .i64 (a1 * a1))))) fun y0 =>
 some ((y0.1,()))
def f223.ins:Shape:=⟨[(0,n6),(1,n6)],[]⟩
def f223.outs:List Shape:=[⟨[(0,n6)],[]⟩]
def f223.S:FnSpec:=⟨f223.ins,f223.outs,[],fun x=>f223 x.1 x.2.1⟩
def f223.E (fuel:Nat):Env:=⟨tisB,[(225,f225.S)],[],[],[],[],0,[],fuel⟩
theorem f223.run:RunOk f223.E Go.Proofs.Tryz.f223 f223.S:=by intro x;kernel_rfl
theorem f223.sound:Sound Go.Proofs.Tryz.prog 223 f223.S:=sound_of_run (fun _=>f223.E 100000000000000000000) (by kernel_rfl) (by kernel_rfl) (by kernel_rfl) ordersB (fun _=>⟨tisB_ok,EqsOk.nil _,(fc f225.sound FnsOk.nil)⟩) (fun _=>rfl) (by kernel_rfl) (by kernel_rfl) (fun x r h=>(f223.run x).trans h)
/-! f229: adit/grid.near -/
def f229 (a0:Int) (a1:Int):Option (Int×Unit) :=
 bif decide (IntKind.wrap .i64 (2 * a1) = 0) then
 none
 else
 Option.bind (α:=Int×Unit ⊕ Int×Unit) (
 bif decide (IntKind.wrap .i64 (2 * a1) = 0) then
 none
 else
 bif decide (Int.tmod (IntKind.wrap .i64 (IntKind.wrap .i64 (2 * a0) + a1)) (IntKind.wrap .i64 (2 * a1)) < 0) then
 some (Sum.inl (IntKind.wrap .i64 (IntKind.wrap .i64 (Int.tdiv (IntKind.wrap .i64 (IntKind.wrap .i64 (2 * a0) + a1)) (IntKind.wrap .i64 (2 * a1))) - 1),()))
 else
 some (Sum.inl (IntKind.wrap .i64 (Int.tdiv (IntKind.wrap .i64 (IntKind.wrap .i64 (2 * a0) + a1)) (IntKind.wrap .i64 (2 * a1))),()))
 ) fun y0 =>
 Sum.elim (fun y1 =>
 some ((y1.1,()))
 ) (fun z2 =>
 some (z2)
 ) (y0)
def f229.ins:Shape:=⟨[(0,n6),(1,n6)],[]⟩
def f229.outs:List Shape:=[⟨[(0,n6)],[]⟩]
def f229.S:FnSpec:=⟨f229.ins,f229.outs,[],fun x=>f229 x.1 x.2.1⟩
def f229.E (fuel:Nat):Env:=⟨tisB,[],[],[(5,⟨[(5,n6)],[]⟩)],[],[],0,[],fuel⟩
theorem f229.run:RunOk f229.E Go.Proofs.Tryz.f229 f229.S:=by intro x;kernel_rfl
theorem f229.sound:Sound Go.Proofs.Tryz.prog 229 f229.S:=sound_of_run (fun _=>f229.E 100000000000000000000) (by kernel_rfl) (by kernel_rfl) (by kernel_rfl) ordersB (fun _=>⟨tisB_ok,EqsOk.nil _,FnsOk.nil⟩) (fun _=>rfl) (by kernel_rfl) (by kernel_rfl) (fun x r h=>(f229.run x).trans h)
/-! f226: adit/grid.Line -/
def f226.L1 (x:Int×Int×Int×Int×Int×Int×List Int×Unit):Option (List Int×Unit) :=
 it (X:=Int×Int×Int×Int×Int×Int×List Int×Unit) (fun rec x=>match x with
 | (v0,v1,v2,v3,v4,v5,v6,_) =>
 bif decide (v5 ≤ v4) then
 Option.bind (f229 (IntKind.wrap .i64 (v5 * IntKind.wrap .i64 (v2 - v0))) v4) fun y0 =>
 Option.bind (f229 (IntKind.wrap .i64 (v5 * IntKind.wrap .i64 (v3 - v1))) v4) fun y1 =>
 Option.bind (f77 (IntKind.wrap .i64 (v0 + y0.1)) (IntKind.wrap .i64 (v1 + y1.1))) fun y2 =>
 bif decide (List.length v6 + 1 ≤ limit 8) then
 rec (v0,v1,v2,v3,v4,IntKind.wrap .i64 (v5 + 1),v6 ++ [y2.1],())
 else
 none
 else
 some ((v6,()))
 ) (100000000000000000000) (x)
def f226 (a0:Int) (a1:Int) (a2:Int) (a3:Int):Option (List Int×Unit) :=
 Option.bind (f77 a0 a1) fun y0 =>
 bif decide (y0.1 < 0) then
 some (([],()))
 else
 Option.bind (f77 a2 a3) fun y1 =>
 bif decide (y1.1 < 0) then
 some (([],()))
 else
 Option.bind (f77 a0 a1) fun y2 =>
 f226.L1 ((a0,a1,a2,a3,maxI (maxI (maxI (IntKind.wrap .i64 (a2 - a0)) (IntKind.wrap .i64 (a0 - a2))) (IntKind.wrap .i64 (a3 - a1))) (IntKind.wrap .i64 (a1 - a3)),1,[y2.1],()))
def f226.ins:Shape:=⟨[(0,n6),(1,n6),(2,n6),(3,n6)],[]⟩
def f226.outs:List Shape:=[⟨[(0,.c (.own 0))],[(0,.arr (.int .i64))]⟩]
def f226.S:FnSpec:=⟨f226.ins,f226.outs,[],fun x=>f226 x.1 x.2.1 x.2.2.1 x.2.2.2.1⟩
def f226.E (fuel:Nat):Env:=⟨tisB,[(77,f77.S),(229,f229.S)],[],[],[(7,⟨[(0,n6),(1,n6),(2,n6),(3,n6),(9,n6),(10,.c (.own 0)),(11,n6)],[(0,.arr (.int .i64))]⟩)],[],0,[],fuel⟩
theorem f226.run:RunOk f226.E Go.Proofs.Tryz.f226 f226.S:=by intro x;kernel_rfl
theorem f226.sound:Sound Go.Proofs.Tryz.prog 226 f226.S:=sound_of_run (fun _=>f226.E 100000000000000000000) (by kernel_rfl) (by kernel_rfl) (by kernel_rfl) ordersB (fun _=>⟨tisB_ok,EqsOk.nil _,(fc f77.sound (fc f229.sound FnsOk.nil))⟩) (fun _=>rfl) (by kernel_rfl) (by kernel_rfl) (fun x r h=>(f226.run x).trans h)
/-! f227: adit/grid.Clear -/
def f227 (a0:Int):Option (Bool×Unit) :=
 Option.bind (f15 a0) fun y0 =>
 bif y0.1 then
 some ((a0 != 2,()))
 else
 some ((Bool.false,()))
def f227.ins:Shape:=⟨[(0,n6)],[]⟩
def f227.outs:List Shape:=[⟨[(0,.c (.bool))],[]⟩]
def f227.S:FnSpec:=⟨f227.ins,f227.outs,[],fun x=>f227 x.1⟩
def f227.E (fuel:Nat):Env:=⟨tisB,[(15,f15.S)],[],[],[],[],0,[],fuel⟩
theorem f227.run:RunOk f227.E Go.Proofs.Tryz.f227 f227.S:=by intro x;kernel_rfl
theorem f227.sound:Sound Go.Proofs.Tryz.prog 227 f227.S:=sound_of_run (fun _=>f227.E 100000000000000000000) (by kernel_rfl) (by kernel_rfl) (by kernel_rfl) ordersB (fun _=>⟨tisB_ok,EqsOk.nil _,(fc f15.sound FnsOk.nil)⟩) (fun _=>rfl) (by kernel_rfl) (by kernel_rfl) (fun x r h=>(f227.run x).trans h)
/-! f224: adit/grid.Sees -/
def f224.L1 (x:List Int×Int×List Int×Unit):Option (Bool×Unit) :=
 it (X:=List Int×Int×List Int×Unit) (fun rec x =>
 bif decide (x.2.1 < IntKind.wrap .i64 ((↑(List.length x.2.2.1):Int) - 1)) then
 bif inRange x.2.1 (List.length x.2.2.1) then
 Option.bind (f41 x.1 (List.getD x.2.2.1 (Int.toNat x.2.1) 0)) fun y0 =>
 Option.bind (f227 y0.1) fun y1 =>
 bif !y1.1 then
 some ((Bool.false,()))
 else
 rec (x.1,IntKind.wrap .i64 (x.2.1 + 1),x.2.2.1,())
 else
 none
 else
 some ((decide ((↑(List.length x.2.2.1):Int) > 0),()))
 ) (100000000000000000000) (x)
def f224 (a0:List Int) (a1:Int) (a2:Int) (a3:Int) (a4:Int):Option (Bool×Unit) :=
 Option.bind (f226 a1 a2 a3 a4) fun y0 =>
 f224.L1 ((a0,1,y0.1,()))
def f224.ins:Shape:=⟨[(0,r8),(1,n6),(2,n6),(3,n6),(4,n6)],[]⟩
def f224.outs:List Shape:=[⟨[(0,.c (.bool))],[]⟩]
def f224.S:FnSpec:=⟨f224.ins,f224.outs,[],fun x=>f224 x.1 x.2.1 x.2.2.1 x.2.2.2.1 x.2.2.2.2.1⟩
def f224.E (fuel:Nat):Env:=⟨tisB,[(41,f41.S),(226,f226.S),(227,f227.S)],[],[],[(4,⟨[(0,r8),(11,.c (.own 0)),(12,n6)],[(0,.arr (.int .i64))]⟩)],[],0,[],fuel⟩
theorem f224.run:RunOk f224.E Go.Proofs.Tryz.f224 f224.S:=by intro x;kernel_rfl
theorem f224.sound:Sound Go.Proofs.Tryz.prog 224 f224.S:=sound_of_run (fun _=>f224.E 100000000000000000000) (by kernel_rfl) (by kernel_rfl) (by kernel_rfl) ordersB (fun _=>⟨tisB_ok,EqsOk.nil _,(fc f41.sound (fc f226.sound (fc f227.sound FnsOk.nil)))⟩) (fun _=>rfl) (by kernel_rfl) (by kernel_rfl) (fun x r h=>(f224.run x).trans h)
/-! f221: adit/minds.prey -/
def f221.L1 (x:Int×Int×Int×Int×Int×Int×Int×List Int×List E11×List (Int×Int×Int×Int)×Int×Int×Int×Int×Int×Int×Int×Int×Int×Int×Int×Int×Int×Int×Int×Unit):Option (Int×Unit) :=
 it (X:=Int×Int×Int×Int×Int×Int×Int×List Int×List E11×List (Int×Int×Int×Int)×Int×Int×Int×Int×Int×Int×Int×Int×Int×Int×Int×Int×Int×Int×Int×Unit) (fun rec x=>match x with
 | (v0,v1,v2,v3,v4,v5,v6,v7,v8,v9,v10,v11,v12,v13,v14,v15,v16,v17,v18,v19,v20,v21,v22,v23,v24,_) =>
 bif decide (v2 < 4) then
 Option.bind (f97 v8 v2) fun y0 =>
 bif decide (y0.1 < 0) then
 rec (v0,v1,IntKind.wrap .i64 (v2 + 1),v3,v4,v5,v6,v7,v8,v9,v10,v11,v12,v13,v14,v15,v16,v17,v18,v19,v20,v21,v22,v23,v24,())
 else
 bif inRange y0.1 (List.length v8) then
 Option.bind (f223 (IntKind.wrap .i64 ((List.getD v8 (Int.toNat y0.1) (0,0,0,0,0,0,0,0,0,0,0)).2.2.2.1 - v17)) (IntKind.wrap .i64 ((List.getD v8 (Int.toNat y0.1) (0,0,0,0,0,0,0,0,0,0,0)).2.2.2.2.1 - v18))) fun y1 =>
 bif decide (y1.1 ≤ 1536) then
 bif decide (v0 < 0) then
 Option.bind (f224 v7 v17 v18 (List.getD v8 (Int.toNat y0.1) (0,0,0,0,0,0,0,0,0,0,0)).2.2.2.1 (List.getD v8 (Int.toNat y0.1) (0,0,0,0,0,0,0,0,0,0,0)).2.2.2.2.1) fun y2 =>
 bif y2.1 then
 rec (y0.1,y1.1,IntKind.wrap .i64 (v2 + 1),v3,v4,v5,v6,v7,v8,v9,v10,v11,v12,v13,v14,v15,v16,v17,v18,v19,v20,v21,v22,v23,v24,())
 else
 rec (v0,v1,IntKind.wrap .i64 (v2 + 1),v3,v4,v5,v6,v7,v8,v9,v10,v11,v12,v13,v14,v15,v16,v17,v18,v19,v20,v21,v22,v23,v24,())
 else
 bif decide (y1.1 < v1) then
 Option.bind (f224 v7 v17 v18 (List.getD v8 (Int.toNat y0.1) (0,0,0,0,0,0,0,0,0,0,0)).2.2.2.1 (List.getD v8 (Int.toNat y0.1) (0,0,0,0,0,0,0,0,0,0,0)).2.2.2.2.1) fun y3 =>
 bif y3.1 then
 rec (y0.1,y1.1,IntKind.wrap .i64 (v2 + 1),v3,v4,v5,v6,v7,v8,v9,v10,v11,v12,v13,v14,v15,v16,v17,v18,v19,v20,v21,v22,v23,v24,())
 else
 rec (v0,v1,IntKind.wrap .i64 (v2 + 1),v3,v4,v5,v6,v7,v8,v9,v10,v11,v12,v13,v14,v15,v16,v17,v18,v19,v20,v21,v22,v23,v24,())
 else
 rec (v0,v1,IntKind.wrap .i64 (v2 + 1),v3,v4,v5,v6,v7,v8,v9,v10,v11,v12,v13,v14,v15,v16,v17,v18,v19,v20,v21,v22,v23,v24,())
 else
 rec (v0,v1,IntKind.wrap .i64 (v2 + 1),v3,v4,v5,v6,v7,v8,v9,v10,v11,v12,v13,v14,v15,v16,v17,v18,v19,v20,v21,v22,v23,v24,())
 else
 none
 else
 some ((v0,()))
 ) (100000000000000000000) (x)
def f221 (a0:Int) (a1:Int) (a2:Int) (a3:Int) (a4:List Int) (a5:List E11) (a6:List (Int×Int×Int×Int)) (a7:Int) (a8:Int) (a9:Int) (a10:Int) (a11:Int) (a12:Int) (a13:Int) (a14:Int) (a15:Int) (a16:Int) (a17:Int) (a18:Int) (a19:Int) (a20:Int) (a21:Int):Option (Int×Unit) :=
 f221.L1 ((-1,0,0,a0,a1,a2,a3,a4,a5,a6,a7,a8,a9,a10,a11,a12,a13,a14,a15,a16,a17,a18,a19,a20,a21,()))
def f221.ins:Shape:=⟨[(0,wS),(1,eS)],[]⟩
def f221.outs:List Shape:=[⟨[(0,n6)],[]⟩]
def f221.S:FnSpec:=⟨f221.ins,f221.outs,[],fun x=>f221 x.1 x.2.1 x.2.2.1 x.2.2.2.1 x.2.2.2.2.1 x.2.2.2.2.2.1 x.2.2.2.2.2.2.1 x.2.2.2.2.2.2.2.1 x.2.2.2.2.2.2.2.2.1 x.2.2.2.2.2.2.2.2.2.1 x.2.2.2.2.2.2.2.2.2.2.1 x.2.2.2.2.2.2.2.2.2.2.2.1 x.2.2.2.2.2.2.2.2.2.2.2.2.1 x.2.2.2.2.2.2.2.2.2.2.2.2.2.1 x.2.2.2.2.2.2.2.2.2.2.2.2.2.2.1 x.2.2.2.2.2.2.2.2.2.2.2.2.2.2.2.1 x.2.2.2.2.2.2.2.2.2.2.2.2.2.2.2.2.1 x.2.2.2.2.2.2.2.2.2.2.2.2.2.2.2.2.2.1 x.2.2.2.2.2.2.2.2.2.2.2.2.2.2.2.2.2.2.1 x.2.2.2.2.2.2.2.2.2.2.2.2.2.2.2.2.2.2.2.1 x.2.2.2.2.2.2.2.2.2.2.2.2.2.2.2.2.2.2.2.2.1 x.2.2.2.2.2.2.2.2.2.2.2.2.2.2.2.2.2.2.2.2.2.1⟩
def f221.E (fuel:Nat):Env:=⟨tisB,[(97,f97.S),(223,f223.S),(224,f224.S)],[],[],[(4,⟨[(2,.c (.ptr 0 0)),(3,.c (.ptr 1 0)),(5,n6),(6,n6),(11,n6)],[(0,.box [.int .i64,.int .i64,.int .i64,.int .i64,.row (.int .u8),.row tE,.row tI,.int .i64,.int .i64,.int .i64,.int .i64]),(1,.box [.int .i64,.int .i64,.int .i64,.int .i64,.int .i64,.int .i64,.int .i64,.int .i64,.int .i64,.int .i64,.int .i64])]⟩)],[],0,[],fuel⟩
theorem f221.run:RunOk f221.E Go.Proofs.Tryz.f221 f221.S:=by intro x;kernel_rfl
theorem f221.sound:Sound Go.Proofs.Tryz.prog 221 f221.S:=sound_of_run (fun _=>f221.E 100000000000000000000) (by kernel_rfl) (by kernel_rfl) (by kernel_rfl) ordersB (fun _=>⟨tisB_ok,EqsOk.nil _,(fc f97.sound (fc f223.sound (fc f224.sound FnsOk.nil)))⟩) (fun _=>rfl) (by kernel_rfl) (by kernel_rfl) (fun x r h=>(f221.run x).trans h)
/-! f222: adit/nav.Beside -/
def f222.L1 (x:Int×Int×Int×Int×Int×Unit):Option (Int×Unit) :=
 it (X:=Int×Int×Int×Int×Int×Unit) (fun rec x =>
 bif decide (x.2.2.2.2.1 ≤ 4) then
 Option.bind (f78 x.2.2.2.2.1) fun y0 =>
 bif IntKind.wrap .i64 (x.2.2.1 - x.1) == y0.1 then
 bif IntKind.wrap .i64 (x.2.2.2.1 - x.2.1) == y0.2.1 then
 some ((x.2.2.2.2.1,()))
 else
 rec (x.1,x.2.1,x.2.2.1,x.2.2.2.1,IntKind.wrap .i64 (x.2.2.2.2.1 + 1),())
 else
 rec (x.1,x.2.1,x.2.2.1,x.2.2.2.1,IntKind.wrap .i64 (x.2.2.2.2.1 + 1),())
 else
 some ((0,()))
 ) (100000000000000000000) (x)
def f222 (a0:Int) (a1:Int) (a2:Int) (a3:Int):Option (Int×Unit) :=
 f222.L1 ((a0,a1,a2,a3,1,()))
def f222.ins:Shape:=⟨[(0,n6),(1,n6),(2,n6),(3,n6)],[]⟩
def f222.outs:List Shape:=[⟨[(0,n6)],[]⟩]
def f222.S:FnSpec:=⟨f222.ins,f222.outs,[],fun x=>f222 x.1 x.2.1 x.2.2.1 x.2.2.2.1⟩
def f222.E (fuel:Nat):Env:=⟨tisB,[(78,f78.S)],[],[],[(3,⟨[(0,n6),(1,n6),(2,n6),(3,n6),(9,n6)],[]⟩)],[],0,[],fuel⟩
theorem f222.run:RunOk f222.E Go.Proofs.Tryz.f222 f222.S:=by intro x;kernel_rfl
theorem f222.sound:Sound Go.Proofs.Tryz.prog 222 f222.S:=sound_of_run (fun _=>f222.E 100000000000000000000) (by kernel_rfl) (by kernel_rfl) (by kernel_rfl) ordersB (fun _=>⟨tisB_ok,EqsOk.nil _,(fc f78.sound FnsOk.nil)⟩) (fun _=>rfl) (by kernel_rfl) (by kernel_rfl) (fun x r h=>(f222.run x).trans h)
/-! f220: (adit/minds.monster).wants -/
def f220 (a0:Int) (a1:Int) (a2:Int) (a3:Int) (a4:Int) (a5:List Int) (a6:List E11) (a7:List (Int×Int×Int×Int)) (a8:Int) (a9:Int) (a10:Int) (a11:Int):Option (Int×Unit) :=
 bif decide (a0 < 0) then
 some ((0,()))
 else
 bif decide (a0 ≥ minI (↑(List.length a6):Int) 32) then
 some ((0,()))
 else
 bif inRange a0 (List.length a6) then
 bif (List.getD a6 (Int.toNat a0) (0,0,0,0,0,0,0,0,0,0,0)).1 == 0 then
 some ((0,()))
 else
 bif (List.getD a6 (Int.toNat a0) (0,0,0,0,0,0,0,0,0,0,0)).1 == 1 then
 some ((0,()))
 else
 Option.bind (f221 a1 a2 a3 a4 a5 a6 a7 a8 a9 a10 a11 (List.getD a6 (Int.toNat a0) (0,0,0,0,0,0,0,0,0,0,0)).1 (List.getD a6 (Int.toNat a0) (0,0,0,0,0,0,0,0,0,0,0)).2.1 (List.getD a6 (Int.toNat a0) (0,0,0,0,0,0,0,0,0,0,0)).2.2.1 (List.getD a6 (Int.toNat a0) (0,0,0,0,0,0,0,0,0,0,0)).2.2.2.1 (List.getD a6 (Int.toNat a0) (0,0,0,0,0,0,0,0,0,0,0)).2.2.2.2.1 (List.getD a6 (Int.toNat a0) (0,0,0,0,0,0,0,0,0,0,0)).2.2.2.2.2.1 (List.getD a6 (Int.toNat a0) (0,0,0,0,0,0,0,0,0,0,0)).2.2.2.2.2.2.1 (List.getD a6 (Int.toNat a0) (0,0,0,0,0,0,0,0,0,0,0)).2.2.2.2.2.2.2.1 (List.getD a6 (Int.toNat a0) (0,0,0,0,0,0,0,0,0,0,0)).2.2.2.2.2.2.2.2.1 (List.getD a6 (Int.toNat a0) (0,0,0,0,0,0,0,0,0,0,0)).2.2.2.2.2.2.2.2.2.1 (List.getD a6 (Int.toNat a0) (0,0,0,0,0,0,0,0,0,0,0)).2.2.2.2.2.2.2.2.2.2) fun y0 =>
 bif decide (y0.1 ≥ 0) then
 bif inRange y0.1 (List.length a6) then
 Option.bind (f222 (List.getD a6 (Int.toNat a0) (0,0,0,0,0,0,0,0,0,0,0)).2.2.2.1 (List.getD a6 (Int.toNat a0) (0,0,0,0,0,0,0,0,0,0,0)).2.2.2.2.1 (List.getD a6 (Int.toNat y0.1) (0,0,0,0,0,0,0,0,0,0,0)).2.2.2.1 (List.getD a6 (Int.toNat y0.1) (0,0,0,0,0,0,0,0,0,0,0)).2.2.2.2.1) fun y1 =>
 bif y1.1 != 0 then
 some ((y1.1,()))
 else
 Option.bind (f16 a5 a6 (List.getD a6 (Int.toNat a0) (0,0,0,0,0,0,0,0,0,0,0)).2.2.2.1 (List.getD a6 (Int.toNat a0) (0,0,0,0,0,0,0,0,0,0,0)).2.2.2.2.1 [IntKind.wrap .i64 (IntKind.wrap .i64 ((List.getD a6 (Int.toNat y0.1) (0,0,0,0,0,0,0,0,0,0,0)).2.2.2.2.1 * 24) + (List.getD a6 (Int.toNat y0.1) (0,0,0,0,0,0,0,0,0,0,0)).2.2.2.1)]) fun y2 =>
 some ((y2.1,()))
 else
 none
 else
 Option.bind (f71 8 a1 [a2,a0,90]) fun y3 =>
 bif decide (y3.1 < 1) then
 some ((0,()))
 else
 bif decide (y3.1 > 4) then
 some ((0,()))
 else
 Option.bind (f214 (List.getD a6 (Int.toNat a0) (0,0,0,0,0,0,0,0,0,0,0)).1 (List.getD a6 (Int.toNat a0) (0,0,0,0,0,0,0,0,0,0,0)).2.1 (List.getD a6 (Int.toNat a0) (0,0,0,0,0,0,0,0,0,0,0)).2.2.1 (List.getD a6 (Int.toNat a0) (0,0,0,0,0,0,0,0,0,0,0)).2.2.2.1 (List.getD a6 (Int.toNat a0) (0,0,0,0,0,0,0,0,0,0,0)).2.2.2.2.1 (List.getD a6 (Int.toNat a0) (0,0,0,0,0,0,0,0,0,0,0)).2.2.2.2.2.1 (List.getD a6 (Int.toNat a0) (0,0,0,0,0,0,0,0,0,0,0)).2.2.2.2.2.2.1 (List.getD a6 (Int.toNat a0) (0,0,0,0,0,0,0,0,0,0,0)).2.2.2.2.2.2.2.1 (List.getD a6 (Int.toNat a0) (0,0,0,0,0,0,0,0,0,0,0)).2.2.2.2.2.2.2.2.1 (List.getD a6 (Int.toNat a0) (0,0,0,0,0,0,0,0,0,0,0)).2.2.2.2.2.2.2.2.2.1 (List.getD a6 (Int.toNat a0) (0,0,0,0,0,0,0,0,0,0,0)).2.2.2.2.2.2.2.2.2.2 y3.1) fun y4 =>
 Option.bind (f95 a5 y4.1 y4.2.1) fun y5 =>
 Option.bind (f15 y5.1) fun y6 =>
 bif !y6.1 then
 some ((0,()))
 else
 Option.bind (f96 a6 y4.1 y4.2.1) fun y7 =>
 bif decide (y7.1 ≥ 0) then
 some ((0,()))
 else
 some ((y3.1,()))
 else
 none
def f220.ins:Shape:=⟨[(0,.agg [.int .i64]),(1,wS)],[]⟩
def f220.outs:List Shape:=[⟨[(0,n6)],[]⟩]
def f220.S:FnSpec:=⟨f220.ins,f220.outs,[],fun x=>f220 x.1 x.2.1 x.2.2.1 x.2.2.2.1 x.2.2.2.2.1 x.2.2.2.2.2.1 x.2.2.2.2.2.2.1 x.2.2.2.2.2.2.2.1 x.2.2.2.2.2.2.2.2.1 x.2.2.2.2.2.2.2.2.2.1 x.2.2.2.2.2.2.2.2.2.2.1 x.2.2.2.2.2.2.2.2.2.2.2.1⟩
def f220.E (fuel:Nat):Env:=⟨tisB,[(71,f71.S),(15,f15.S),(96,f96.S),(214,f214.S),(95,f95.S),(16,f16.S),(221,f221.S),(222,f222.S)],[],[],[],[],0,[],fuel⟩
theorem f220.run:RunOk f220.E Go.Proofs.Tryz.f220 f220.S:=by intro x;kernel_rfl
theorem f220.sound:Sound Go.Proofs.Tryz.prog 220 f220.S:=sound_of_run (fun _=>f220.E 100000000000000000000) (by kernel_rfl) (by kernel_rfl) (by kernel_rfl) ordersB (fun _=>⟨tisB_ok,EqsOk.nil _,(fc f71.sound (fc f15.sound (fc f96.sound (fc f214.sound (fc f95.sound (fc f16.sound (fc f221.sound (fc f222.sound FnsOk.nil))))))))⟩) (fun _=>rfl) (by kernel_rfl) (by kernel_rfl) (fun x r h=>(f220.run x).trans h)
/-! f111: adit/minds.Monster -/
def f111 (a0:Int) (a1:Int) (a2:Int) (a3:Int) (a4:List Int) (a5:List E11) (a6:List (Int×Int×Int×Int)) (a7:Int) (a8:Int) (a9:Int) (a10:Int) (a11:Int):Option (Int×Unit):=f220 a11 a0 a1 a2 a3 a4 a5 a6 a7 a8 a9 a10
def f111.S:FnSpec:=⟨mindIns,wantOuts,[],fun x=>f111 x.1 x.2.1 x.2.2.1 x.2.2.2.1 x.2.2.2.2.1 x.2.2.2.2.2.1 x.2.2.2.2.2.2.1 x.2.2.2.2.2.2.2.1 x.2.2.2.2.2.2.2.2.1 x.2.2.2.2.2.2.2.2.2.1 x.2.2.2.2.2.2.2.2.2.2.1 x.2.2.2.2.2.2.2.2.2.2.2.1⟩
def f111.E:Env:=⟨tisB,[],[],[],[],[],0,[],1⟩
theorem f111.ask : AskParts f111.E ((Go.Proofs.Tryz.f61.body).getD .skip) "adit/minds.wants" 43 := ⟨by kernel_rfl, by kernel_rfl, by kernel_rfl, by kernel_rfl, by unfold IsOp; kernel_rfl, by unfold IsOp; kernel_rfl, by intros; kernel_rfl, by intros; kernel_rfl, by intros; kernel_rfl⟩
theorem f111.parts:MindParts f111.E ((Go.Proofs.Tryz.f111.body).getD .skip) 198 61 43 158:=⟨by kernel_rfl,by kernel_rfl,by kernel_rfl,by unfold IsOp;kernel_rfl,by unfold IsOp;kernel_rfl,by intros;kernel_rfl,by intros;kernel_rfl,by intros;kernel_rfl,by intros;kernel_rfl⟩
theorem f111.sound : Sound Go.Proofs.Tryz.prog 111 f111.S := mind_sound (fn := Go.Proofs.Tryz.f111) (E := f111.E) (c := ((Go.Proofs.Tryz.f111.body).getD .skip)) (tS := 198) (fa := 61) (tW := 43) (tF := 158) (by kernel_rfl) (by kernel_rfl) (by kernel_rfl) (by kernel_rfl) (by kernel_rfl) f111.parts ⟨tisB_ok, EqsOk.nil _, FnsOk.nil⟩ rfl (by intros; kernel_rfl) (F := (fun n x => f220 n x.1 x.2.1 x.2.2.1 x.2.2.2.1 x.2.2.2.2.1 x.2.2.2.2.2.1 x.2.2.2.2.2.2.1 x.2.2.2.2.2.2.2.1 x.2.2.2.2.2.2.2.2.1 x.2.2.2.2.2.2.2.2.2.1 x.2.2.2.2.2.2.2.2.2.2.1)) (fun h _ _ _ hV hro => ask_tells (fn := Go.Proofs.Tryz.f61) (E := f111.E) (c := ((Go.Proofs.Tryz.f61.body).getD .skip)) (name := "adit/minds.wants") (tW := 43) (tS := 198) (fw := 220) (by kernel_rfl) (by kernel_rfl) (by kernel_rfl) (by kernel_rfl) (by kernel_rfl) f111.ask ⟨tisB_ok, EqsOk.nil _, FnsOk.nil⟩ rfl (by intros; kernel_rfl) (F := (fun n x => f220 n x.1 x.2.1 x.2.2.1 x.2.2.2.1 x.2.2.2.2.1 x.2.2.2.2.2.1 x.2.2.2.2.2.2.1 x.2.2.2.2.2.2.2.1 x.2.2.2.2.2.2.2.2.1 x.2.2.2.2.2.2.2.2.2.1 x.2.2.2.2.2.2.2.2.2.2.1)) f220.sound h hV hro)
/-! f57: (*adit/crawl.maker).monsters -/
def f57.L1 (x:Int×Int×Int×Int×Int×Int×Int×Int×Int×Int×Bool×Bool×List Int×List E11×List (Int×Int×Int×Int)×Unit):Option (Int×Int×Int×Int×Int×Int×Int×Int×Bool×Bool×List Int×List E11×List (Int×Int×Int×Int)×Unit) :=
 it (X:=Int×Int×Int×Int×Int×Int×Int×Int×Int×Int×Bool×Bool×List Int×List E11×List (Int×Int×Int×Int)×Unit) (fun rec x=>match x with
 | (v0,v1,v2,v3,v4,v5,v6,v7,v8,v9,v10,v11,v12,v13,v14,_) =>
 bif decide (v1 < v0) then
 bif inRange v1 (List.length v13) then
 bif (List.getD v13 (Int.toNat v1) (0,0,0,0,0,0,0,0,0,0,0)).1 == 0 then
 rec (v0,IntKind.wrap .i64 (v1 + 1),v2,v3,v4,v5,v6,v7,v8,v9,v10,v11,v12,v13,v14,())
 else
 bif (List.getD v13 (Int.toNat v1) (0,0,0,0,0,0,0,0,0,0,0)).1 == 1 then
 rec (v0,IntKind.wrap .i64 (v1 + 1),v2,v3,v4,v5,v6,v7,v8,v9,v10,v11,v12,v13,v14,())
 else
 bif decide ((List.getD v13 (Int.toNat v1) (0,0,0,0,0,0,0,0,0,0,0)).2.2.2.2.2.2.2.2.2.2 > 0) then
 rec (v0,IntKind.wrap .i64 (v1 + 1),v2,v3,v4,v5,v6,v7,v8,v9,v10,v11,v12,v13,v14,())
 else
 Option.bind (f111 v2 v3 v4 v5 v12 v13 v14 v6 v7 v8 v9 v1) fun y0 =>
 bif decide (y0.1 ≥ 1) then
 bif decide (y0.1 ≤ 4) then
 Option.bind (f112 v1 y0.1 v2 v3 v4 v5 v6 v7 v8 v9 v10 v11 v12 v13 v14) fun y1 =>
 rec (v0,IntKind.wrap .i64 (v1 + 1),y1.1,y1.2.1,y1.2.2.1,y1.2.2.2.1,y1.2.2.2.2.1,y1.2.2.2.2.2.1,y1.2.2.2.2.2.2.1,y1.2.2.2.2.2.2.2.1,y1.2.2.2.2.2.2.2.2.1,y1.2.2.2.2.2.2.2.2.2.1,y1.2.2.2.2.2.2.2.2.2.2.1,y1.2.2.2.2.2.2.2.2.2.2.2.1,y1.2.2.2.2.2.2.2.2.2.2.2.2.1,())
 else
 rec (v0,IntKind.wrap .i64 (v1 + 1),v2,v3,v4,v5,v6,v7,v8,v9,v10,v11,v12,v13,v14,())
 else
 rec (v0,IntKind.wrap .i64 (v1 + 1),v2,v3,v4,v5,v6,v7,v8,v9,v10,v11,v12,v13,v14,())
 else
 none
 else
 some ((v2,v3,v4,v5,v6,v7,v8,v9,v10,v11,v12,v13,v14,()))
 ) (100000000000000000000) (x)
def f57 (a0:Int) (a1:Int) (a2:Int) (a3:Int) (a4:Int) (a5:Int) (a6:Int) (a7:Int) (a8:Bool) (a9:Bool) (a10:List Int) (a11:List E11) (a12:List (Int×Int×Int×Int)):Option (Int×Int×Int×Int×Int×Int×Int×Int×Bool×Bool×List Int×List E11×List (Int×Int×Int×Int)×Unit) :=
 f57.L1 ((minI (↑(List.length a11):Int) 32,0,a0,a1,a2,a3,a4,a5,a6,a7,a8,a9,a10,a11,a12,()))
def f57.ins:Shape:=⟨[(0,.c (.ptr 0 0))],[(0,.box [.int .i64,.int .i64,.int .i64,.int .i64,.own 1,.own 2,.own 3,.int .i64,.int .i64,.int .i64,.int .i64,.bool,.bool]),(1,.arr (.int .u8)),(2,.arr tE),(3,.arr tI)]⟩
def f57.outs:List Shape:=[⟨[],[(0,.box [.int .i64,.int .i64,.int .i64,.int .i64,.own 4,.own 5,.own 6,.int .i64,.int .i64,.int .i64,.int .i64,.bool,.bool]),(4,.arr (.int .u8)),(5,.arr tE),(6,.arr tI)]⟩]
def f57.S:FnSpec:=⟨f57.ins,f57.outs,[0],fun x=>f57 x.1 x.2.1 x.2.2.1 x.2.2.2.1 x.2.2.2.2.1 x.2.2.2.2.2.1 x.2.2.2.2.2.2.1 x.2.2.2.2.2.2.2.1 x.2.2.2.2.2.2.2.2.1 x.2.2.2.2.2.2.2.2.2.1 x.2.2.2.2.2.2.2.2.2.2.1 x.2.2.2.2.2.2.2.2.2.2.2.1 x.2.2.2.2.2.2.2.2.2.2.2.2.1⟩
def f57.E (fuel:Nat):Env:=⟨tisB,[(112,f112.S),(111,f111.S)],[],[],[(2,⟨[(0,.c (.ptr 0 0)),(11,n6),(12,n6)],[(0,.box [.int .i64,.int .i64,.int .i64,.int .i64,.own 4,.own 5,.own 6,.int .i64,.int .i64,.int .i64,.int .i64,.bool,.bool]),(4,.arr (.int .u8)),(5,.arr tE),(6,.arr tI)]⟩)],[],4,[0],fuel⟩
theorem f57.run:RunOk f57.E Go.Proofs.Tryz.f57 f57.S:=by intro x;kernel_rfl
theorem f57.sound:Sound Go.Proofs.Tryz.prog 57 f57.S:=sound_of_run (fun _=>f57.E 100000000000000000000) (by kernel_rfl) (by kernel_rfl) (by kernel_rfl) ordersB (fun _=>⟨tisB_ok,EqsOk.nil _,(fc f112.sound (fc f111.sound FnsOk.nil))⟩) (fun _=>rfl) (by kernel_rfl) (by kernel_rfl) (fun x r h=>(f57.run x).trans h)
end
end Go.Proofs.YthdgahpomhnidaaGreat.Run

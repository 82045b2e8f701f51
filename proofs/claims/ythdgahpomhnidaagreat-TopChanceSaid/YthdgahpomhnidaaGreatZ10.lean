import Derived.Test.YthdgahpomhnidaaGreatProg
import Derived.Test.YthdgahpomhnidaaGreatZ9
set_option linter.unusedVariables false
set_option autoImplicit false
namespace Go.Proofs.YthdgahpomhnidaaGreat.Run
open Go Mx
abbrev tE:Ty:=.prod (.int .i64) (.prod (.int .i64) (.prod (.int .i64) (.prod (.int .i64) (.prod (.int .i64) (.prod (.int .i64) (.prod (.int .i64) (.prod (.int .i64) (.prod (.int .i64) (.prod (.int .i64) (.int .i64))))))))))
abbrev tI:Ty:=.prod (.int .i64) (.prod (.int .i64) (.prod (.int .i64) (.int .i64)))
abbrev n6:AF:=.c (.int .i64)
abbrev nb:AF:=.c .bool
abbrev r8:AF:=.c (.row (.int .u8))
abbrev rE:AF:=.c (.row tE)
abbrev rI:AF:=.c (.row tI)
abbrev wS:AF:=.agg [.int .i64,.int .i64,.int .i64,.int .i64,.row (.int .u8),.row tE,.row tI,.int .i64,.int .i64,.int .i64,.int .i64]
abbrev eS:AF:=.agg [.int .i64,.int .i64,.int .i64,.int .i64,.int .i64,.int .i64,.int .i64,.int .i64,.int .i64,.int .i64,.int .i64]
def RunOk(E:Nat→Env)(fn:Func)(S:FnSpec):Prop:=∀x,runFn (E 100000000000000000000) fn ((fn.body).getD .skip) S x=S.f x
theorem fc{P:Program}{k:Nat}{T:FnSpec}{l:List (Nat×FnSpec)}(h:Sound P k T)(hl:∀f S,S∈fnsOf l f→Sound P f S):∀f S,S∈fnsOf ((k,T)::l) f→Sound P f S:=FnsOk.cons h hl
abbrev E11:=Int×Int×Int×Int×Int×Int×Int×Int×Int×Int×Int
set_option maxRecDepth 100000
set_option maxHeartbeats 4000000
noncomputable section
def ty2:TI:=⟨.int .i64,1,8,[.int .i64 0],some (.int .i64)⟩
def ty3:TI:=⟨.int .i64,1,8,[.int .i64 0],some (.int .i64)⟩
def ty4:TI:=⟨.bool,1,1,[.bool false],some .bool⟩
def ty5:TI:=⟨.int .u8,1,1,[.int .u8 0],some (.int .u8)⟩
def ty9:TI:=⟨.str,1,16,[.str ⟨#[]⟩],some .str⟩
def ty23:TI:=⟨.slice 5,1,24,[.nils],some (.row (.int .u8))⟩
def ty24:TI:=⟨.slice 45,1,24,[.nils],some (.row tE)⟩
def ty25:TI:=⟨.slice 106,1,24,[.nils],some (.row tI)⟩
def ty27:TI:=⟨.struct [(0,23),(1,24),(2,25)],3,72,[.nils,.nils,.nils],some (.prod (.row (.int .u8)) (.prod (.row tE) (.row tI)))⟩
def ty33:TI:=⟨.slice 3,1,24,[.nils],some (.row (.int .i64))⟩
def ty38:TI:=⟨.slice 33,1,24,[.nils],some (.row (.row (.int .i64)))⟩
def ty39:TI:=⟨.slice 43,1,24,[.nils],some (.row (.prod (.int .i64) (.prod (.int .i64) (.prod (.int .i64) (.prod (.int .i64) (.prod (.row (.int .u8)) (.prod (.row tE) (.prod (.row tI) tI))))))))⟩
def ty41:TI:=⟨.arr 4 3,4,32,[.int .i64 0,.int .i64 0,.int .i64 0,.int .i64 0],some tI⟩
def ty43:TI:=⟨.struct [(0,2),(1,3),(2,3),(3,3),(4,23),(5,24),(6,25),(7,41)],11,136,[.int .i64 0,.int .i64 0,.int .i64 0,.int .i64 0,.nils,.nils,.nils,.int .i64 0,.int .i64 0,.int .i64 0,.int .i64 0],some (.prod (.int .i64) (.prod (.int .i64) (.prod (.int .i64) (.prod (.int .i64) (.prod (.row (.int .u8)) (.prod (.row tE) (.prod (.row tI) tI)))))))⟩
def ty45:TI:=⟨.struct [(0,3),(1,3),(2,3),(3,3),(4,3),(5,3),(6,3),(7,3),(8,3),(9,3),(10,3)],11,88,[.int .i64 0,.int .i64 0,.int .i64 0,.int .i64 0,.int .i64 0,.int .i64 0,.int .i64 0,.int .i64 0,.int .i64 0,.int .i64 0,.int .i64 0],some tE⟩
def ty50:TI:=⟨.struct [(0,3),(1,3),(2,4)],3,24,[.int .i64 0,.int .i64 0,.bool false],some (.prod (.int .i64) (.prod (.int .i64) .bool))⟩
def ty52:TI:=⟨.arr 4 50,12,96,[.int .i64 0,.int .i64 0,.bool false,.int .i64 0,.int .i64 0,.bool false,.int .i64 0,.int .i64 0,.bool false,.int .i64 0,.int .i64 0,.bool false],some (.prod (.prod (.int .i64) (.prod (.int .i64) .bool)) (.prod (.prod (.int .i64) (.prod (.int .i64) .bool)) (.prod (.prod (.int .i64) (.prod (.int .i64) .bool)) (.prod (.int .i64) (.prod (.int .i64) .bool)))))⟩
def ty66:TI:=⟨.int .u64,1,8,[.int .u64 0],some (.int .u64)⟩
def ty78:TI:=⟨.struct [(0,27),(3,2),(4,3),(5,33)],6,112,[.nils,.nils,.nils,.int .i64 0,.int .i64 0,.nils],some (.prod (.prod (.row (.int .u8)) (.prod (.row tE) (.row tI))) (.prod (.int .i64) (.prod (.int .i64) (.row (.int .i64)))))⟩
def ty80:TI:=⟨.struct [(0,3),(1,3)],2,16,[.int .i64 0,.int .i64 0],some (.prod (.int .i64) (.int .i64))⟩
def ty81:TI:=⟨.arr 6 80,12,96,[.int .i64 0,.int .i64 0,.int .i64 0,.int .i64 0,.int .i64 0,.int .i64 0,.int .i64 0,.int .i64 0,.int .i64 0,.int .i64 0,.int .i64 0,.int .i64 0],some (.prod (.prod (.int .i64) (.int .i64)) (.prod (.prod (.int .i64) (.int .i64)) (.prod (.prod (.int .i64) (.int .i64)) (.prod (.prod (.int .i64) (.int .i64)) (.prod (.prod (.int .i64) (.int .i64)) (.prod (.int .i64) (.int .i64)))))))⟩
def ty87:TI:=⟨.slice 4,1,24,[.nils],some (.row .bool)⟩
def ty93:TI:=⟨.flt .f64,1,8,[.fint 0],none⟩
def ty99:TI:=⟨.struct [(0,43),(11,4),(12,4)],13,144,[.int .i64 0,.int .i64 0,.int .i64 0,.int .i64 0,.nils,.nils,.nils,.int .i64 0,.int .i64 0,.int .i64 0,.int .i64 0,.bool false,.bool false],some (.prod (.prod (.int .i64) (.prod (.int .i64) (.prod (.int .i64) (.prod (.int .i64) (.prod (.row (.int .u8)) (.prod (.row tE) (.prod (.row tI) tI))))))) (.prod .bool .bool))⟩
def ty104:TI:=⟨.struct [(0,3)],1,8,[.int .i64 0],some (.int .i64)⟩
def ty106:TI:=⟨.struct [(0,3),(1,3),(2,3),(3,3)],4,32,[.int .i64 0,.int .i64 0,.int .i64 0,.int .i64 0],some tI⟩
def ty112:TI:=⟨.struct [(0,23),(1,24),(2,25)],3,72,[.nils,.nils,.nils],some (.prod (.row (.int .u8)) (.prod (.row tE) (.row tI)))⟩
def ty162:TI:=⟨.arr 6 3,6,48,[.int .i64 0,.int .i64 0,.int .i64 0,.int .i64 0,.int .i64 0,.int .i64 0],some (.prod (.int .i64) (.prod (.int .i64) tI))⟩
def ty191:TI:=⟨.struct [(0,3),(1,3)],2,16,[.int .i64 0,.int .i64 0],some (.prod (.int .i64) (.int .i64))⟩
def ty198:TI:=⟨.struct [(0,3)],1,8,[.int .i64 0],some (.int .i64)⟩
def ty207:TI:=⟨.int .u64,1,8,[.int .u64 0],some (.int .u64)⟩
def tis:List (Nat×TI):=[(2,ty2),(3,ty3),(4,ty4),(5,ty5),(9,ty9),(23,ty23),(24,ty24),(25,ty25),(27,ty27),(33,ty33),(38,ty38),(39,ty39),(41,ty41),(43,ty43),(45,ty45),(50,ty50),(52,ty52),(66,ty66),(78,ty78),(80,ty80),(81,ty81),(87,ty87),(93,ty93),(99,ty99),(104,ty104),(106,ty106),(112,ty112),(162,ty162),(191,ty191),(198,ty198),(207,ty207)]
theorem ty2_ok:TIok Go.Proofs.Tryz.prog 2 ty2:=by constructor<;>kernel_rfl
theorem ty3_ok:TIok Go.Proofs.Tryz.prog 3 ty3:=by constructor<;>kernel_rfl
theorem ty4_ok:TIok Go.Proofs.Tryz.prog 4 ty4:=by constructor<;>kernel_rfl
theorem ty5_ok:TIok Go.Proofs.Tryz.prog 5 ty5:=by constructor<;>kernel_rfl
theorem ty9_ok:TIok Go.Proofs.Tryz.prog 9 ty9:=by constructor<;>kernel_rfl
theorem ty23_ok:TIok Go.Proofs.Tryz.prog 23 ty23:=by constructor<;>kernel_rfl
theorem ty24_ok:TIok Go.Proofs.Tryz.prog 24 ty24:=by constructor<;>kernel_rfl
theorem ty25_ok:TIok Go.Proofs.Tryz.prog 25 ty25:=by constructor<;>kernel_rfl
theorem ty27_ok:TIok Go.Proofs.Tryz.prog 27 ty27:=by constructor<;>kernel_rfl
theorem ty33_ok:TIok Go.Proofs.Tryz.prog 33 ty33:=by constructor<;>kernel_rfl
theorem ty38_ok:TIok Go.Proofs.Tryz.prog 38 ty38:=by constructor<;>kernel_rfl
theorem ty39_ok:TIok Go.Proofs.Tryz.prog 39 ty39:=by constructor<;>kernel_rfl
theorem ty41_ok:TIok Go.Proofs.Tryz.prog 41 ty41:=by constructor<;>kernel_rfl
theorem ty43_ok:TIok Go.Proofs.Tryz.prog 43 ty43:=by constructor<;>kernel_rfl
theorem ty45_ok:TIok Go.Proofs.Tryz.prog 45 ty45:=by constructor<;>kernel_rfl
theorem ty50_ok:TIok Go.Proofs.Tryz.prog 50 ty50:=by constructor<;>kernel_rfl
theorem ty52_ok:TIok Go.Proofs.Tryz.prog 52 ty52:=by constructor<;>kernel_rfl
theorem ty66_ok:TIok Go.Proofs.Tryz.prog 66 ty66:=by constructor<;>kernel_rfl
theorem ty78_ok:TIok Go.Proofs.Tryz.prog 78 ty78:=by constructor<;>kernel_rfl
theorem ty80_ok:TIok Go.Proofs.Tryz.prog 80 ty80:=by constructor<;>kernel_rfl
theorem ty81_ok:TIok Go.Proofs.Tryz.prog 81 ty81:=by constructor<;>kernel_rfl
theorem ty87_ok:TIok Go.Proofs.Tryz.prog 87 ty87:=by constructor<;>kernel_rfl
theorem ty93_ok:TIok Go.Proofs.Tryz.prog 93 ty93:=by constructor<;>kernel_rfl
theorem ty99_ok:TIok Go.Proofs.Tryz.prog 99 ty99:=by constructor<;>kernel_rfl
theorem ty104_ok:TIok Go.Proofs.Tryz.prog 104 ty104:=by constructor<;>kernel_rfl
theorem ty106_ok:TIok Go.Proofs.Tryz.prog 106 ty106:=by constructor<;>kernel_rfl
theorem ty112_ok:TIok Go.Proofs.Tryz.prog 112 ty112:=by constructor<;>kernel_rfl
theorem ty162_ok:TIok Go.Proofs.Tryz.prog 162 ty162:=by constructor<;>kernel_rfl
theorem ty191_ok:TIok Go.Proofs.Tryz.prog 191 ty191:=by constructor<;>kernel_rfl
theorem ty198_ok:TIok Go.Proofs.Tryz.prog 198 ty198:=by constructor<;>kernel_rfl
theorem ty207_ok:TIok Go.Proofs.Tryz.prog 207 ty207:=by constructor<;>kernel_rfl
theorem tis_ok:TIs Go.Proofs.Tryz.prog tis:=TIs.cons ty2_ok<|TIs.cons ty3_ok<|TIs.cons ty4_ok<|TIs.cons ty5_ok<|TIs.cons ty9_ok<|TIs.cons ty23_ok<|TIs.cons ty24_ok<|TIs.cons ty25_ok<|TIs.cons ty27_ok<|TIs.cons ty33_ok<|TIs.cons ty38_ok<|TIs.cons ty39_ok<|TIs.cons ty41_ok<|TIs.cons ty43_ok<|TIs.cons ty45_ok<|TIs.cons ty50_ok<|TIs.cons ty52_ok<|TIs.cons ty66_ok<|TIs.cons ty78_ok<|TIs.cons ty80_ok<|TIs.cons ty81_ok<|TIs.cons ty87_ok<|TIs.cons ty93_ok<|TIs.cons ty99_ok<|TIs.cons ty104_ok<|TIs.cons ty106_ok<|TIs.cons ty112_ok<|TIs.cons ty162_ok<|TIs.cons ty191_ok<|TIs.cons ty198_ok<|TIs.cons ty207_ok<|TIs.nil _
theorem orders:Go.Proofs.Tryz.prog.follows .mixedOrders=true:=by kernel_rfl
theorem eq41:EqOk Go.Proofs.Tryz.prog 41 [.int .i64,.int .i64,.int .i64,.int .i64]:=eqok_arr (n:=4) (e:=3) (k:=.int .i64) (by kernel_rfl) (by kernel_rfl) (by kernel_rfl) (by kernel_rfl) (by kernel_rfl) (by kernel_rfl)
theorem eq45:EqOk Go.Proofs.Tryz.prog 45 [.int .i64,.int .i64,.int .i64,.int .i64,.int .i64,.int .i64,.int .i64,.int .i64,.int .i64,.int .i64,.int .i64]:=eqok_of (by kernel_rfl) (by kernel_rfl) (by kernel_rfl) (by kernel_rfl)
theorem eq80:EqOk Go.Proofs.Tryz.prog 80 [.int .i64,.int .i64]:=eqok_of (by kernel_rfl) (by kernel_rfl) (by kernel_rfl) (by kernel_rfl)
theorem eq106:EqOk Go.Proofs.Tryz.prog 106 [.int .i64,.int .i64,.int .i64,.int .i64]:=eqok_of (by kernel_rfl) (by kernel_rfl) (by kernel_rfl) (by kernel_rfl)
theorem eq191:EqOk Go.Proofs.Tryz.prog 191 [.int .i64,.int .i64]:=eqok_of (by kernel_rfl) (by kernel_rfl) (by kernel_rfl) (by kernel_rfl)
structure FnH where
 k:Nat
 S:FnSpec
 h:Sound Go.Proofs.Tryz.prog k S
abbrev b{k:Nat}{S:FnSpec}(h:Sound Go.Proofs.Tryz.prog k S):FnH:=⟨k,S,h⟩
theorem fh:∀(l:List FnH) (f:Nat) (S:FnSpec),S∈fnsOf (l.map fun x=>(x.k,x.S)) f→Sound Go.Proofs.Tryz.prog f S
 | [],_,_,h=>by cases h
 | x::l,f,S,h=>fc x.h (fh l) f S h
noncomputable abbrev en(l:List FnH)(q:List (Nat×List SK))(c d e:List (Nat×Shape))(m:Nat)(S:FnSpec):Env:=⟨tis,l.map fun x=>(x.k,x.S),q,c,d,e,m,S.keep,100000000000000000000⟩
noncomputable abbrev FN(k:Nat):Func:=(Go.Proofs.Tryz.prog.funcs[k]?).getD Go.Proofs.Tryz.f163
abbrev SO(k:Nat)(S:FnSpec):Prop:=Sound Go.Proofs.Tryz.prog k S
theorem n0:EqsOk Go.Proofs.Tryz.prog []:=EqsOk.nil _
theorem sa{α:Type}{o:Option α}{d:α}(h:o.isSome=true):o=some (o.getD d):=match o,h with | some _,_=>rfl
theorem so{k : Nat}{S : FnSpec}{q : List (Nat × List SK)}(l : List FnH)(he : EqsOk Go.Proofs.Tryz.prog q)(c d e : List (Nat × Shape))(m : Nat)(h : ((Go.Proofs.Tryz.prog.funcs[k]?).isSome && (FN k).body.isSome && !((FN k).name == "runtime.NumGoroutine") && S.ins.wf && S.outs.all Shape.wf) = true)
 (r:∀x,runFn (en l q c d e m S) (FN k) ((FN k).body.getD .skip) S x=S.f x):SO k S:=by
 simp only[Bool.and_eq_true,Bool.not_eq_true']at h;exact sound_of_run (fn:=FN k) (fun _=>en l q c d e m S) (sa h.1.1.1.1) (sa h.1.1.1.2) h.1.1.2 orders (fun _=>⟨tis_ok,he,fh l⟩) (fun _=>rfl) h.1.2 h.2 (fun x s hs=>(r x).trans hs)
abbrev i6:CF:=.int .i64
abbrev q8:CF:=.row (.int .u8)
abbrev qE:CF:=.row tE
abbrev qI:CF:=.row tI
abbrev aE:OF:=.arr tE
abbrev aI:OF:=.arr tI
abbrev a8:OF:=.arr (.int .u8)
abbrev pt(n:Nat):AF:=.c (.ptr n 0)
abbrev ow(n:Nat):AF:=.c (.own n)
abbrev bw(a b c:CF):OF:=.box [i6,i6,i6,i6,a,b,c,i6,i6,i6,i6]
abbrev bx(a b c:CF):OF:=.box [i6,i6,i6,i6,a,b,c,i6,i6,i6,i6,.bool,.bool]
abbrev bz:OF:=.box [i6,i6,i6,i6,i6,i6,i6,i6,i6,i6,i6]
abbrev aw(a b c:CF):AF:=.agg [i6,i6,i6,i6,a,b,c,i6,i6,i6,i6]
abbrev zE:E11:=(0,0,0,0,0,0,0,0,0,0,0)
abbrev LE:=List E11
abbrev I4:=Int×Int×Int×Int
abbrev LI:=List I4
abbrev LZ:=List Int
abbrev T0:=Int×Int×Int×Int×Int×Int×Int×Int×LZ×LE×LI×Unit
abbrev T1:=Int×Int×Int×Int×Int×Int×Int×Int×Int×Int×Int×Unit
abbrev T2:=Int×Int×Int×Int×Int×Int×Int×Int×Bool×Bool×LZ×LE×LI×Unit
abbrev T3:=Int×Int×Unit
abbrev T4:=List (Int×Int×Int×Int×LZ×LE×LI×Int×Int×Int×Int)×Unit
abbrev T5:=Int×Int×Int×Int×Int×Int×Int×Int×T0
abbrev T6:=Int×Int×Int×Int×Int×Int×Int×Int×Int×Int×Bool×Int×Int×Bool×Int×Int×Bool×Int×Int×Bool×T0
abbrev T7:=Int×Int×Int×Int×LZ×LE×LI×Int×Int×T3
abbrev T8:=Int×Int×Int×Int×Int×Int×Int×Int×Int×Int×Int×Int×Int×Int×Int×Int×LI×LZ×LE×Unit
abbrev T9:=Int×List (Int×Int×Int×Int×LZ×LE×LI×Int×Int×Int×Int)×Int×Int×Int×Int×Int×Int×Int×Int×Int×Int×Bool×Int×Int×Bool×Int×Int×Bool×Int×Int×Bool×LZ×LE×LI×Unit
abbrev T10:=Int×Int×Int×Int×LZ×LE×LI×Int×Int×Int×Int×T1
abbrev T11:=LZ×LI×Int×Int×Int×Int×Int×Int×Int×Int×Int×Int×Int×Int×Int×Int×Int×Int×LE×LZ×LE×LE×LI×Unit
abbrev T12:=LZ×LE×LI×Unit
abbrev T13:=Int×Int×LZ×Unit
abbrev T14:=Int×Int×Int×Int×Int×LZ×LE×LI×Int×Int×Int×Int×List (Int×Int×Int×Int×LZ×LE×LI×Int×Int×Int×Int)×Int×Int×Bool×Int×Int×Bool×Int×Int×Bool×Int×Int×Bool×Unit
abbrev T15:=Int×Int×Int×Bool×Int×Int×Bool×Int×Int×Bool×Int×Int×Bool×Int×Int×Int×Int×Int×Int×Int×Int×T2
abbrev T16:=Int×List (Int×Int×Int×Int×LZ×LE×LI×Int×Int×Int×Int)×T0
abbrev T17:=Int×LZ×LZ×Unit
abbrev T18:=Int×Int×Int×Int×LZ×LE×LI×Int×Int×Int×Int×T7
abbrev T19:=Int×Int×Int×Int×Int×Int×Int×Int×LZ×LI×T12
abbrev T20:=Int×Int×Int×LZ×Int×T1
abbrev T21:=Int×Int×T3
abbrev T22:=Int×Int×Int×Int×Int×Int×Int×Int×Int×Int×Int×Int×Int×Int×T8
abbrev T23:=Int×Int×Int×LZ×LZ×LZ×Unit
abbrev T24:=Int×Int×Int×Int×Int×Int×Int×Int×Int×Int×Int×Int×Int×T13
abbrev T25:=Int×Int×Int×Int×Int×Int×LZ×LE×LI×Int×Int×T13
abbrev T26:=Int×Int×Int×Int×Int×Int×Int×Int×Int×Bool×Bool×LZ×LE×LI×LE×Unit
abbrev T27:=Int×Int×Int×Int×Int×Bool×Bool×LZ×Int×T1
abbrev T28:=Int×Int×Int×Int×Int×Int×Int×Int×Bool×Bool×LZ×LI×LE×Unit
abbrev T29:=Int×LZ×Unit
abbrev T30:=Int×LZ×LI×Int×Int×Int×Int×Int×Int×Int×Int×Int×Int×Int×Int×Int×Int×Int×Int×LZ×LE×LE×LI×Unit
abbrev T31:=Int×Int×Int×Int×Int×Int×Int×Int×Int×Int×Int×T1
abbrev T32:=Int×Int×LZ×LE×LZ×LI×Unit
abbrev T33:=Int×LZ×LI×LE×LI×Int×Int×Int×Int×Int×Int×Int×Int×Int×Int×Int×Int×Int×Int×Int×Int×LE×Unit
abbrev T34:=LZ×List Bool×T17
abbrev T35:=Int×Int×Int×Int×Int×T20
abbrev T36:=Int×LZ×LI×Int×Int×Int×Int×Int×Int×Int×Int×Int×Int×Int×Int×Int×Int×Int×Int×LE×T12
abbrev T37:=Int×Int×Int×Int×LZ×LE×LI×Int×Int×Int×Int
abbrev T38:=Int×Int×Int×Int×Int×Int×Int×Int×Int×Int×Int×Int×Int×Int×Int×Int×LE×LZ×LI×Unit
abbrev T39:=Int×Int×T13
abbrev T40:=Int×Int×Int×Bool×Int×Int×Int×Int×Int×Int×Int×Int×Bool×Bool×Int×Int×Int×T0
abbrev T41:=Bool×Bool×Int×Int×LZ×T21
abbrev T42:=Int×Int×Int×Int×Int×Int×Int×Int×Int×Int×Bool×Bool×LE×LZ×LI×Unit
abbrev T43:=Int×Int×Int×Int×Int×Int×Int×Int×Int×Int×Bool×Bool×LI×LZ×LE×Unit
abbrev T44:=Int×Int×Int×Int×Int×Int×Int×Int×Int×Int×Bool×Bool×LZ×LI×LE×T12
abbrev T45:=Int×Int×Int×Int×Int×Int×Int×Int×Int×Int×Bool×Bool×LI×LE×T12
abbrev T46:=List (LZ)×Int×Int×Int×Int×Int×LZ×LE×LI×Int×Int×Int×Int×T4
abbrev T47:=Int×Int×List Bool×Unit
abbrev T48:=Int×Int×Int×Int×Int×Int×Int×Int×Int×Int×Bool×Bool×LE×T12
abbrev T49:=LZ×LZ×LE×Unit
abbrev T50:=Int×Int×Int×Int×Int×Int×Int×Int×LZ×LI×LE×LI×LE×LI×Unit
abbrev T51:=Int×Int×T7
abbrev T52:=LZ×List Bool×T23
abbrev T53:=Int×Int×Int×T17
abbrev T54:=Int×LI×Unit
abbrev T55:=Int×Int×Int×Int×Int×Int×Int×Int×Bool×Bool×LZ×LI×T12
abbrev T56:=LZ×List Bool×LZ×T29
abbrev T57:=Int×Int×Int×Int×Int×Int×Int×Int×Bool×Bool×LI×T12
abbrev T58:=Int×Int×Int×Int×Int×T23
abbrev T59:=Int×Int×T10
abbrev T60:=Int×Int×Bool×Int×LZ×LZ×List Bool×LE×LI×Unit
abbrev T61:=Int×Int×LE×Unit
abbrev T62:=Int×Int×T5
abbrev T63:=Int×Int×Bool×Int×LZ×LZ×List Bool×LE×Unit
def f163(a0:Int):Option (Int×Unit) :=
 some ((IntKind.wrap .u64 (↑(BitVec.toNat (BitVec.ofInt (IntKind.bits IntKind.u64) (IntKind.wrap .u64 (IntKind.wrap .u64 (↑(BitVec.toNat (BitVec.ofInt (IntKind.bits IntKind.u64) (IntKind.wrap .u64 (IntKind.wrap .u64 (↑(BitVec.toNat (BitVec.ofInt (IntKind.bits IntKind.u64) a0 ^^^ BitVec.ofInt (IntKind.bits IntKind.u64) (Int.fdiv a0 (2 ^ Min.min 30 (IntKind.bits IntKind.u64))))):Int)*13787848793156543929)) ^^^ BitVec.ofInt (IntKind.bits IntKind.u64) (Int.fdiv (IntKind.wrap .u64 (IntKind.wrap .u64 (↑(BitVec.toNat (BitVec.ofInt (IntKind.bits IntKind.u64) a0 ^^^ BitVec.ofInt (IntKind.bits IntKind.u64) (Int.fdiv a0 (2 ^ Min.min 30 (IntKind.bits IntKind.u64))))):Int)*13787848793156543929)) (2 ^ Min.min 27 (IntKind.bits IntKind.u64))))):Int)*10723151780598845931)) ^^^ BitVec.ofInt (IntKind.bits IntKind.u64) (Int.fdiv (IntKind.wrap .u64 (IntKind.wrap .u64 (↑(BitVec.toNat (BitVec.ofInt (IntKind.bits IntKind.u64) (IntKind.wrap .u64 (IntKind.wrap .u64 (↑(BitVec.toNat (BitVec.ofInt (IntKind.bits IntKind.u64) a0 ^^^ BitVec.ofInt (IntKind.bits IntKind.u64) (Int.fdiv a0 (2 ^ Min.min 30 (IntKind.bits IntKind.u64))))):Int)*13787848793156543929)) ^^^ BitVec.ofInt (IntKind.bits IntKind.u64) (Int.fdiv (IntKind.wrap .u64 (IntKind.wrap .u64 (↑(BitVec.toNat (BitVec.ofInt (IntKind.bits IntKind.u64) a0 ^^^ BitVec.ofInt (IntKind.bits IntKind.u64) (Int.fdiv a0 (2 ^ Min.min 30 (IntKind.bits IntKind.u64))))):Int)*13787848793156543929)) (2 ^ Min.min 27 (IntKind.bits IntKind.u64))))):Int)*10723151780598845931)) (2 ^ Min.min 31 (IntKind.bits IntKind.u64))))):Int),()))
def f163.S:FnSpec:=⟨⟨[(0,.c (.int .u64))],[]⟩,[⟨[(0,.c (.int .u64))],[]⟩],[],fun x=>f163 x.1⟩
theorem f163.sound:SO 163 f163.S:=so [] n0 [] [] [] 0 (by kernel_rfl) fun _=>by kernel_rfl
def f128.L1(x:Int×LZ×T3):Option (Int×Unit) :=
 it (X:=Int×LZ×T3) (fun rec x =>
 bif decide (x.2.2.2.1<x.2.2.1) then
 bif inRange x.2.2.2.1 (List.length x.2.1) then
 Option.bind (f163 (IntKind.wrap .u64 (IntKind.wrap .u64 (↑(BitVec.toNat (BitVec.ofInt (IntKind.bits IntKind.u64) x.1 ^^^ BitVec.ofInt (IntKind.bits IntKind.u64) (IntKind.wrap .u64 (List.getD x.2.1 (Int.toNat x.2.2.2.1) 0)))):Int)+11400714819323198485))) fun y0 =>
 rec (y0.1,x.2.1,x.2.2.1,IntKind.wrap .i64 (x.2.2.2.1+1),())
 else
 none
 else
 some ((x.1,()))
 ) (100000000000000000000) (x)
def f128(a0:Int)(a1:LZ):Option (Int×Unit) :=
 Option.bind (f163 (IntKind.wrap .u64 (IntKind.wrap .u64 a0+11400714819323198485))) fun y0 =>
 f128.L1 ((y0.1,a1,(↑(List.length a1):Int),0,()))
def f128.S:FnSpec:=⟨⟨[(0,n6),(1,.c (.row (.int .i64)))],[]⟩,[⟨[(0,.c (.int .u64))],[]⟩],[],fun x=>f128 x.1 x.2.1⟩
theorem f128.sound:SO 128 f128.S:=so [b f163.sound] n0 [] [(4,⟨[(5,.c (.int .u64)),(12,.c (.row (.int .i64))),(13,n6),(14,n6)],[]⟩)] [] 0 (by kernel_rfl) fun _=>by kernel_rfl
def f71(a0 a1:Int)(a2:LZ):Option (Int×Unit) :=
 bif decide (a0<1) then
 some ((0,()))
 else
 Option.bind (f128 a1 a2) fun y0 =>
 bif decide (IntKind.wrap .u64 a0=0) then
 none
 else
 some ((IntKind.wrap .i64 (Int.tmod y0.1 (IntKind.wrap .u64 a0)),()))
def f71.S:FnSpec:=⟨⟨[(0,n6),(1,n6),(2,.c (.row (.int .i64)))],[]⟩,[⟨[(0,n6)],[]⟩],[],fun(a,b,c,_)=>f71 a b c⟩
theorem f71.sound:SO 71 f71.S:=so [b f128.sound] n0 [] [] [] 0 (by kernel_rfl) fun _=>by kernel_rfl
def f36(a0:(LZ×LE×LI)×Int×Int×LZ)(a1 a2 a3:Int):Option (Int×Unit) :=
 Option.bind (f71 a3 a0.2.1 [a0.2.2.1,a1,a2]) fun y0 =>
 some ((y0.1,()))
def f36.S:FnSpec:=⟨⟨[(0,.c (.bptr (.prod (.prod (.row (.int .u8)) (.prod (.row tE) (.row tI))) (.prod (.int .i64) (.prod (.int .i64) (.row (.int .i64))))))),(1,n6),(2,n6),(3,n6)],[]⟩,[⟨[(0,n6)],[]⟩],[],fun(a,b,c,d,_)=>f36 a b c d⟩
theorem f36.sound:SO 36 f36.S:=so [b f71.sound] n0 [] [] [] 0 (by kernel_rfl) fun _=>by kernel_rfl
def f69(a0 a1:Int):Option (Int×Unit) :=
 some ((IntKind.wrap .i64 (IntKind.wrap .i64 (a1*24)+a0),()))
def f69.S:FnSpec:=⟨⟨[(0,.agg [i6,i6])],[]⟩,[⟨[(0,n6)],[]⟩],[],fun x=>f69 x.1 x.2.1⟩
theorem f69.sound:SO 69 f69.S:=so [] n0 [] [] [] 0 (by kernel_rfl) fun _=>by kernel_rfl
def f34.L1(x:Int×Int×Int×Int×Int×Int×Int×Int×LZ×T3):Option (T39) :=
 it (X:=Int×Int×Int×Int×Int×Int×Int×Int×LZ×T3) (fun rec x=>match x with
 | (v0,v1,v2,v3,v4,v5,v6,v7,v8,v9,v10,_) =>
 bif decide (v5<v4) then
 bif decide (v0=0) then
 none
 else
 bif decide (v0=0) then
 none
 else
 Option.bind (f69 (IntKind.wrap .i64 (v2+Int.tmod v5 v0)) (IntKind.wrap .i64 (v3+IntKind.wrap .i64 (Int.tdiv v5 v0)))) fun y0 =>
 bif inRange y0.1 (List.length v8) then
 rec (v0,v1,v2,v3,v4,IntKind.wrap .i64 (v5+1),v6,v7,List.set v8 (Int.toNat y0.1) 1,v9,v10,())
 else
 none
 else
 some ((IntKind.wrap .i64 (v2+IntKind.wrap .i64 (Int.tdiv v0 2)),IntKind.wrap .i64 (v3+IntKind.wrap .i64 (Int.tdiv v1 2)),v6,v7,v8,()))
 ) (100000000000000000000) (x)
def f34(a0 a1 a2:Int)(a3:LZ):Option (T39) :=
 Option.bind (f36 ((a3,[],[]),a1,a2,[]) a0 0 5) fun y0 =>
 Option.bind (f36 ((a3,[],[]),a1,a2,[]) a0 1 4) fun y1 =>
 Option.bind (f36 ((a3,[],[]),a1,a2,[]) a0 2 (IntKind.wrap .i64 (23-IntKind.wrap .i64 (3+y0.1)))) fun y2 =>
 Option.bind (f36 ((a3,[],[]),a1,a2,[]) a0 3 (IntKind.wrap .i64 (15-IntKind.wrap .i64 (2+y1.1)))) fun y3 =>
 f34.L1 ((IntKind.wrap .i64 (3+y0.1),IntKind.wrap .i64 (2+y1.1),IntKind.wrap .i64 (1+y2.1),IntKind.wrap .i64 (1+y3.1),IntKind.wrap .i64 (IntKind.wrap .i64 (3+y0.1)*IntKind.wrap .i64 (2+y1.1)),0,a1,a2,a3,0,0,()))
def f34.S:FnSpec:=⟨⟨[(0,pt 0),(1,n6)],[(0,.box [.own 1,.nils,.nils,i6,i6,.nils]),(1,a8)]⟩,[⟨[(0,.agg [i6,i6])],[(0,.box [.own 1,.nils,.nils,i6,i6,.nils]),(1,a8)]⟩],[0,1],fun(a,b,c,d,_)=>f34 a b c d⟩
theorem f34.sound:SO 34 f34.S:=so [b f36.sound,b f69.sound] n0 [] [(5,⟨[(0,pt 0),(4,pt 2),(5,n6),(6,n6),(7,n6),(8,n6),(32,n6),(33,n6)],[(0,.box [.own 1,.nils,.nils,i6,i6,.nils]),(1,a8),(2,.box [i6,i6])]⟩)] [] 2 (by kernel_rfl) fun _=>by kernel_rfl
def f70(a0 a1:Int):Option (Int×Unit) :=
 bif decide (a0<a1) then
 some ((IntKind.wrap .i64 (a0+1),()))
 else
 bif decide (a0>a1) then
 some ((IntKind.wrap .i64 (a0-1),()))
 else
 some ((a0,()))
def f70.S:FnSpec:=⟨⟨[(0,n6),(1,n6)],[]⟩,[⟨[(0,n6)],[]⟩],[],fun x=>f70 x.1 x.2.1⟩
theorem f70.sound:SO 70 f70.S:=so [] n0 [] [] [] 0 (by kernel_rfl) fun _=>by kernel_rfl
def f35.L1(x:T41):Option (T13) :=
 it (X:=T41) (fun rec x=>match x with
 | (v0,v1,v2,v3,v4,v5,v6,v7,v8,_) =>
 Option.bind (α:=T41⊕T13) (
 Option.bind (f69 v5 v6) fun y0 =>
 bif inRange y0.1 (List.length v4) then
 bif List.getD v4 (Int.toNat y0.1) 0==0 then
 bif !v1 then
 some (Sum.inl (v0,Bool.true,v2,v3,List.set (List.set v4 (Int.toNat y0.1) 1) (Int.toNat y0.1) 2,v5,v6,v7,v8,()))
 else
 some (Sum.inl (v0,Bool.true,v2,v3,List.set v4 (Int.toNat y0.1) 1,v5,v6,v7,v8,()))
 else
 some (Sum.inl (v0,v1,v2,v3,v4,v5,v6,v7,v8,()))
 else
 none
 ) fun y1 =>
 Sum.elim (fun y2=>match y2 with
 | (u2_0,u2_1,u2_2,u2_3,u2_4,u2_5,u2_6,u2_7,u2_8,_) =>
 bif u2_5==u2_7&&(u2_6==u2_8&&Bool.true) then
 some ((u2_2,u2_3,u2_4,()))
 else
 bif u2_0 then
 bif u2_5 !=u2_7 then
 Option.bind (f70 u2_5 u2_7) fun y3 =>
 rec (u2_0,u2_1,u2_2,u2_3,u2_4,y3.1,u2_6,u2_7,u2_8,())
 else
 bif u2_6==u2_8 then
 Option.bind (f70 u2_5 u2_7) fun y4 =>
 rec (u2_0,u2_1,u2_2,u2_3,u2_4,y4.1,u2_6,u2_7,u2_8,())
 else
 Option.bind (f70 u2_6 u2_8) fun y5 =>
 rec (u2_0,u2_1,u2_2,u2_3,u2_4,u2_5,y5.1,u2_7,u2_8,())
 else
 bif u2_6==u2_8 then
 Option.bind (f70 u2_5 u2_7) fun y6 =>
 rec (u2_0,u2_1,u2_2,u2_3,u2_4,y6.1,u2_6,u2_7,u2_8,())
 else
 Option.bind (f70 u2_6 u2_8) fun y7 =>
 rec (u2_0,u2_1,u2_2,u2_3,u2_4,u2_5,y7.1,u2_7,u2_8,())
 ) (fun z8 =>
 some (z8)
 ) (y1)
 ) (100000000000000000000) (x)
def f35(a0 a1 a2 a3:Int)(a4:Bool)(a5 a6:Int)(a7:LZ):Option (T13) :=
 Option.bind (α:=T41⊕T13) (
 Option.bind (f69 a0 a1) fun y63 =>
 bif inRange y63.1 (List.length a7) then
 bif List.getD a7 (Int.toNat y63.1) 0==0 then
 some (Sum.inl (a4,Bool.true,a5,a6,List.set (List.set a7 (Int.toNat y63.1) 1) (Int.toNat y63.1) 2,a0,a1,a2,a3,()))
 else
 some (Sum.inl (a4,Bool.false,a5,a6,a7,a0,a1,a2,a3,()))
 else
 none
 ) fun y0 =>
 Sum.elim (fun y1=>match y1 with
 | (u1_0,u1_1,u1_2,u1_3,u1_4,u1_5,u1_6,u1_7,u1_8,_) =>
 bif u1_5==u1_7&&(u1_6==u1_8&&Bool.true) then
 some ((u1_2,u1_3,u1_4,()))
 else
 bif u1_0 then
 bif u1_5 !=u1_7 then
 Option.bind (f70 u1_5 u1_7) fun y3 =>
 f35.L1 ((u1_0,u1_1,u1_2,u1_3,u1_4,y3.1,u1_6,u1_7,u1_8,()))
 else
 bif u1_6==u1_8 then
 Option.bind (f70 u1_5 u1_7) fun y15 =>
 f35.L1 ((u1_0,u1_1,u1_2,u1_3,u1_4,y15.1,u1_6,u1_7,u1_8,()))
 else
 Option.bind (f70 u1_6 u1_8) fun y27 =>
 f35.L1 ((u1_0,u1_1,u1_2,u1_3,u1_4,u1_5,y27.1,u1_7,u1_8,()))
 else
 bif u1_6==u1_8 then
 Option.bind (f70 u1_5 u1_7) fun y39 =>
 f35.L1 ((u1_0,u1_1,u1_2,u1_3,u1_4,y39.1,u1_6,u1_7,u1_8,()))
 else
 Option.bind (f70 u1_6 u1_8) fun y51 =>
 f35.L1 ((u1_0,u1_1,u1_2,u1_3,u1_4,u1_5,y51.1,u1_7,u1_8,()))
 ) (fun z2 =>
 some (z2)
 ) (y0)
def f35.S:FnSpec:=⟨⟨[(0,pt 0),(1,.agg [i6,i6]),(2,.agg [i6,i6]),(3,nb)],[(0,.box [.own 1,.nils,.nils,i6,i6,.nils]),(1,a8)]⟩,[⟨[],[(0,.box [.own 1,.nils,.nils,i6,i6,.nils]),(1,a8)]⟩],[0,1],fun(a,b,c,d,e,f,g,h,_)=>f35 a b c d e f g h⟩
theorem f35.sound:SO 35 f35.S:=so [b f69.sound,b f70.sound] (EqsOk.cons eq80 n0) [(10,⟨[(0,pt 0),(3,nb),(5,pt 2),(6,pt 3),(8,nb)],[(0,.box [.own 1,.nils,.nils,i6,i6,.nils]),(1,a8),(2,.box [i6,i6]),(3,.box [i6,i6])]⟩)] [] [(0,⟨[(0,pt 0),(3,nb),(5,pt 2),(6,pt 3),(8,nb)],[(0,.box [.own 1,.nils,.nils,i6,i6,.nils]),(1,a8),(2,.box [i6,i6]),(3,.box [i6,i6])]⟩)] 2 (by kernel_rfl) fun _=>by kernel_rfl
def f41(a0:LZ)(a1:Int):Option (Int×Unit) :=
 bif decide (a1<0) then
 some ((0,()))
 else
 bif decide (a1≥(↑(List.length a0):Int)) then
 some ((0,()))
 else
 bif inRange a1 (List.length a0) then
 some ((IntKind.wrap .i64 (List.getD a0 (Int.toNat a1) 0),()))
 else
 none
def f41.S:FnSpec:=⟨⟨[(0,r8),(1,n6)],[]⟩,[⟨[(0,n6)],[]⟩],[],fun x=>f41 x.1 x.2.1⟩
theorem f41.sound:SO 41 f41.S:=so [] n0 [] [] [] 0 (by kernel_rfl) fun _=>by kernel_rfl
def f15(a0:Int):Option (Bool×Unit) :=
 bif decide (a0≥1) then
 some ((decide (a0≤5),()))
 else
 some ((Bool.false,()))
def f15.S:FnSpec:=⟨⟨[(0,n6)],[]⟩,[⟨[(0,nb)],[]⟩],[],fun x=>f15 x.1⟩
theorem f15.sound:SO 15 f15.S:=so [] n0 [] [] [] 0 (by kernel_rfl) fun _=>by kernel_rfl
def f77(a0 a1:Int):Option (Int×Unit) :=
 bif decide (a0<0) then
 some ((-1,()))
 else
 bif decide (a0≥24) then
 some ((-1,()))
 else
 bif decide (a1<0) then
 some ((-1,()))
 else
 bif decide (a1≥16) then
 some ((-1,()))
 else
 some ((IntKind.wrap .i64 (IntKind.wrap .i64 (a1*24)+a0),()))
def f77.S:FnSpec:=⟨⟨[(0,n6),(1,n6)],[]⟩,[⟨[(0,n6)],[]⟩],[],fun x=>f77 x.1 x.2.1⟩
theorem f77.sound:SO 77 f77.S:=so [] n0 [] [] [] 0 (by kernel_rfl) fun _=>by kernel_rfl
def f42(a0:Int):Option (T21) :=
 Option.bind (f77 (Int.tmod a0 24) (IntKind.wrap .i64 (IntKind.wrap .i64 (Int.tdiv a0 24)-1))) fun y0 =>
 Option.bind (f77 (IntKind.wrap .i64 (Int.tmod a0 24+1)) (IntKind.wrap .i64 (Int.tdiv a0 24))) fun y1 =>
 Option.bind (f77 (Int.tmod a0 24) (IntKind.wrap .i64 (IntKind.wrap .i64 (Int.tdiv a0 24)+1))) fun y2 =>
 Option.bind (f77 (IntKind.wrap .i64 (Int.tmod a0 24-1)) (IntKind.wrap .i64 (Int.tdiv a0 24))) fun y3 =>
 some ((y0.1,y1.1,y2.1,y3.1,()))
def f42.S:FnSpec:=⟨⟨[(0,n6)],[]⟩,[⟨[(0,.agg [i6,i6,i6,i6])],[]⟩],[],fun x=>f42 x.1⟩
theorem f42.sound:SO 42 f42.S:=so [b f77.sound] n0 [] [] [] 0 (by kernel_rfl) fun _=>by kernel_rfl
def f14.L1(k0:T52→Option (LZ×Unit))(x:LZ×List Bool×T58):Option (LZ×Unit) :=
 it (X:=LZ×List Bool×T58) (fun rec x=>match x with
 | (v0,v1,v2,v3,v4,v5,v6,v7,v8,v9,v10,v11,v12,_) =>
 bif decide (v9<4) then
 bif inRange v9 4 then
 Option.bind (α:=LZ×List Bool×Int×T58⊕LZ×Unit) (
 bif decide (List.getD [v5,v6,v7,v8] (Int.toNat v9) 0<0) then
 Option.bind (rec (v0,v1,v2,v3,v4,v5,v6,v7,v8,IntKind.wrap .i64 (v9+1),v10,v11,v12,())) fun y0 =>
 some (Sum.inr y0)
 else
 bif inRange (List.getD [v5,v6,v7,v8] (Int.toNat v9) 0) (List.length v10) then
 bif decide (List.getD v10 (Int.toNat (List.getD [v5,v6,v7,v8] (Int.toNat v9) 0)) 0≥0) then
 Option.bind (rec (v0,v1,v2,v3,v4,v5,v6,v7,v8,IntKind.wrap .i64 (v9+1),v10,v11,v12,())) fun y1 =>
 some (Sum.inr y1)
 else
 Option.bind (f41 v0 (List.getD [v5,v6,v7,v8] (Int.toNat v9) 0)) fun y2 =>
 Option.bind (f15 y2.1) fun y3 =>
 bif !y3.1 then
 Option.bind (rec (v0,v1,v2,v3,v4,v5,v6,v7,v8,IntKind.wrap .i64 (v9+1),v10,v11,v12,())) fun y4 =>
 some (Sum.inr y4)
 else
 bif decide (List.getD [v5,v6,v7,v8] (Int.toNat v9) 0<(↑(List.length v1):Int)) then
 bif inRange (List.getD [v5,v6,v7,v8] (Int.toNat v9) 0) (List.length v1) then
 bif List.getD v1 (Int.toNat (List.getD [v5,v6,v7,v8] (Int.toNat v9) 0)) Bool.false then
 Option.bind (rec (v0,v1,v2,v3,v4,v5,v6,v7,v8,IntKind.wrap .i64 (v9+1),v10,v11,v12,())) fun y5 =>
 some (Sum.inr y5)
 else
 some (Sum.inl (v0,v1,v2,List.getD [v5,v6,v7,v8] (Int.toNat v9) 0,v3,v4,v5,v6,v7,v8,v9,v10,v11,v12,()))
 else
 none
 else
 some (Sum.inl (v0,v1,v2,List.getD [v5,v6,v7,v8] (Int.toNat v9) 0,v3,v4,v5,v6,v7,v8,v9,v10,v11,v12,()))
 else
 none
 ) fun y6 =>
 Sum.elim (fun y7=>match y7 with
 | (u7_0,u7_1,u7_2,u7_3,u7_4,u7_5,u7_6,u7_7,u7_8,u7_9,u7_10,u7_11,u7_12,u7_13,_) =>
 bif inRange u7_3 (List.length u7_11) then
 bif decide (List.length u7_12+1≤limit 8) then
 let s0:LZ:=List.set u7_11 (Int.toNat u7_3) u7_2
 rec (u7_0,u7_1,u7_2,u7_4,u7_5,u7_6,u7_7,u7_8,u7_9,IntKind.wrap .i64 (u7_10+1),s0,u7_12++[u7_3],u7_13,())
 else
 none
 else
 none
 ) (fun z8 =>
 some (z8)
 ) (y6)
 else
 none
 else
 k0 (v0,v1,v2,v3,IntKind.wrap .i64 (v4+1),v10,v11,v12,())
 ) (100000000000000000000) (x)
def f14.L2(k0:T34→Option (LZ×Unit))(x:T52):Option (LZ×Unit) :=
 it (X:=T52) (fun rec x=>match x with
 | (v0,v1,v2,v3,v4,v5,v6,v7,_) =>
 bif decide (v4<v3) then
 bif inRange v4 (List.length v7) then
 Option.bind (f42 (List.getD v7 (Int.toNat v4) 0)) fun y0 =>
 f14.L1 rec ((v0,v1,v2,v3,v4,y0.1,y0.2.1,y0.2.2.1,y0.2.2.2.1,0,v5,v6,v7,()))
 else
 none
 else
 bif decide ((↑(List.length v6):Int)>0) then
 k0 (v0,v1,v2,v5,v6,())
 else
 some ((v5,()))
 ) (100000000000000000000) (x)
def f14.L3(x:T34):Option (LZ×Unit) :=
 it (X:=T34) (fun rec x =>
 f14.L2 rec ((x.1,x.2.1,IntKind.wrap .i64 (x.2.2.1+1),(↑(List.length x.2.2.2.2.1):Int),0,x.2.2.2.1,[],x.2.2.2.2.1,()))
 ) (100000000000000000000) (x)
def f14.L4(x:T52):Option (LZ×Unit) :=
 it (X:=T52) (fun rec x=>match x with
 | (v0,v1,v2,v3,v4,v5,v6,v7,_) =>
 bif decide (v4<v3) then
 bif inRange v4 (List.length v7) then
 Option.bind (f42 (List.getD v7 (Int.toNat v4) 0)) fun y0 =>
 f14.L1 rec ((v0,v1,v2,v3,v4,y0.1,y0.2.1,y0.2.2.1,y0.2.2.2.1,0,v5,v6,v7,()))
 else
 none
 else
 bif decide ((↑(List.length v6):Int)>0) then
 f14.L3 ((v0,v1,v2,v5,v6,()))
 else
 some ((v5,()))
 ) (100000000000000000000) (x)
def f14.L5(x:LZ×List Bool×LZ×Int×T17):Option (LZ×Unit) :=
 it (X:=LZ×List Bool×LZ×Int×T17) (fun rec x=>match x with
 | (v0,v1,v2,v3,v4,v5,v6,_) =>
 bif decide (v4<v3) then
 bif inRange v4 (List.length v2) then
 bif decide (List.getD v2 (Int.toNat v4) 0≥0) then
 bif decide (List.getD v2 (Int.toNat v4) 0<384) then
 bif inRange (List.getD v2 (Int.toNat v4) 0) (List.length v5) then
 bif decide (List.getD v5 (Int.toNat (List.getD v2 (Int.toNat v4) 0)) 0<0) then
 Option.bind (f41 v0 (List.getD v2 (Int.toNat v4) 0)) fun y0 =>
 Option.bind (f15 y0.1) fun y1 =>
 bif y1.1 then
 bif inRange (List.getD v2 (Int.toNat v4) 0) (List.length v5) then
 bif decide (List.length v6+1≤limit 8) then
 rec (v0,v1,v2,v3,IntKind.wrap .i64 (v4+1),List.set v5 (Int.toNat (List.getD v2 (Int.toNat v4) 0)) 0,v6++[List.getD v2 (Int.toNat v4) 0],())
 else
 none
 else
 none
 else
 rec (v0,v1,v2,v3,IntKind.wrap .i64 (v4+1),v5,v6,())
 else
 rec (v0,v1,v2,v3,IntKind.wrap .i64 (v4+1),v5,v6,())
 else
 none
 else
 rec (v0,v1,v2,v3,IntKind.wrap .i64 (v4+1),v5,v6,())
 else
 rec (v0,v1,v2,v3,IntKind.wrap .i64 (v4+1),v5,v6,())
 else
 none
 else
 f14.L4 ((v0,v1,IntKind.wrap .i64 (0+1),(↑(List.length v6):Int),0,v5,[],v6,()))
 ) (100000000000000000000) (x)
def f14.L6(x:LZ×List Bool×LZ×T13):Option (LZ×Unit) :=
 it (X:=LZ×List Bool×LZ×T13) (fun rec x =>
 bif decide (x.2.2.2.2.1<x.2.2.2.1) then
 bif inRange x.2.2.2.2.1 (List.length x.2.2.2.2.2.1) then
 rec (x.1,x.2.1,x.2.2.1,x.2.2.2.1,IntKind.wrap .i64 (x.2.2.2.2.1+1),List.set x.2.2.2.2.2.1 (Int.toNat x.2.2.2.2.1) (-1),())
 else
 none
 else
 f14.L5 ((x.1,x.2.1,x.2.2.1,(↑(List.length x.2.2.1):Int),0,x.2.2.2.2.2.1,[],()))
 ) (100000000000000000000) (x)
def f14(a0:LZ)(a1:List Bool)(a2:LZ):Option (LZ×Unit) :=
 f14.L6 ((a0,a1,a2,(↑(List.length (List.replicate 384 0)):Int),0,List.replicate 384 0,()))
def f14.S:FnSpec:=⟨⟨[(0,r8),(1,.c (.row .bool)),(2,.c (.row (.int .i64)))],[]⟩,[⟨[(0,ow 0)],[(0,.arr (.int .i64))]⟩],[],fun(a,b,c,_)=>f14 a b c⟩
theorem f14.sound:SO 14 f14.S:=so [b f41.sound,b f15.sound,b f42.sound] n0 [(26,⟨[(0,r8),(1,.c (.row .bool)),(7,ow 0),(10,ow 1),(13,n6),(17,n6),(63,ow 2),(64,n6),(65,n6),(70,.agg [i6,i6,i6,i6]),(71,n6)],[(0,.arr (.int .i64)),(1,.arr (.int .i64)),(2,.arr (.int .i64))]⟩)] [(4,⟨[(0,r8),(1,.c (.row .bool)),(2,.c (.row (.int .i64))),(7,ow 0),(20,n6),(21,n6)],[(0,.arr (.int .i64))]⟩),(10,⟨[(0,r8),(1,.c (.row .bool)),(7,ow 0),(9,ow 1),(28,.c (.row (.int .i64))),(29,n6),(30,n6)],[(0,.arr (.int .i64)),(1,.arr (.int .i64))]⟩),(20,⟨[(0,r8),(1,.c (.row .bool)),(7,ow 0),(10,ow 1),(13,n6),(63,ow 2),(64,n6),(65,n6)],[(0,.arr (.int .i64)),(1,.arr (.int .i64)),(2,.arr (.int .i64))]⟩),(23,⟨[(0,r8),(1,.c (.row .bool)),(7,ow 0),(10,ow 1),(13,n6),(63,ow 2),(64,n6),(65,n6),(70,.agg [i6,i6,i6,i6]),(71,n6)],[(0,.arr (.int .i64)),(1,.arr (.int .i64)),(2,.arr (.int .i64))]⟩)] [(0,⟨[(0,r8),(1,.c (.row .bool)),(7,ow 0),(9,ow 1),(13,n6)],[(0,.arr (.int .i64)),(1,.arr (.int .i64))]⟩)] 0 (by kernel_rfl) fun _=>by kernel_rfl
def f72.L1(x:LZ×T3):Option (Int×Unit) :=
 it (X:=LZ×T3) (fun rec x =>
 bif decide (x.2.2.1<(↑(List.length x.1):Int)) then
 bif inRange x.2.2.1 (List.length x.1) then
 rec (x.1,maxI x.2.1 (List.getD x.1 (Int.toNat x.2.2.1) 0),IntKind.wrap .i64 (x.2.2.1+1),())
 else
 none
 else
 some ((x.2.1,()))
 ) (100000000000000000000) (x)
def f72(a0:LZ):Option (Int×Unit) :=
 bif decide ((↑(List.length a0):Int)<1) then
 none
 else
 bif inRange 0 (List.length a0) then
 f72.L1 ((a0,List.getD a0 0 0,1,()))
 else
 none
def f72.S:FnSpec:=⟨⟨[(0,.c (.row (.int .i64)))],[]⟩,[⟨[(0,n6)],[]⟩],[],fun x=>f72 x.1⟩
theorem f72.sound:SO 72 f72.S:=so [] n0 [] [(6,⟨[(0,.c (.row (.int .i64))),(3,n6),(4,n6)],[]⟩)] [] 0 (by kernel_rfl) fun _=>by kernel_rfl
def f73.L1(x:LZ×Int×T3):Option (Int×Unit) :=
 it (X:=LZ×Int×T3) (fun rec x =>
 bif decide (x.2.2.2.1<x.2.2.1) then
 bif inRange x.2.2.2.1 (List.length x.1) then
 bif x.2.1==List.getD x.1 (Int.toNat x.2.2.2.1) 0 then
 some ((x.2.2.2.1,()))
 else
 rec (x.1,x.2.1,x.2.2.1,IntKind.wrap .i64 (x.2.2.2.1+1),())
 else
 none
 else
 some ((-1,()))
 ) (100000000000000000000) (x)
def f73(a0:LZ)(a1:Int):Option (Int×Unit) :=
 f73.L1 ((a0,a1,(↑(List.length a0):Int),0,()))
def f73.S:FnSpec:=⟨⟨[(0,.c (.row (.int .i64))),(1,n6)],[]⟩,[⟨[(0,n6)],[]⟩],[],fun x=>f73 x.1 x.2.1⟩
theorem f73.sound:SO 73 f73.S:=so [] n0 [] [(3,⟨[(0,.c (.row (.int .i64))),(1,n6),(7,n6),(8,n6)],[]⟩)] [] 0 (by kernel_rfl) fun _=>by kernel_rfl
def f37.L1(x:Int×T53):Option (Int×T17) :=
 it (X:=Int×T53) (fun rec x=>match x with
 | (v0,v1,v2,v3,v4,v5,v6,_) =>
 bif decide (v2<v1) then
 bif inRange v2 (List.length v6) then
 bif List.getD v6 (Int.toNat v2) 0==IntKind.wrap .i64 (Int.tdiv v0 2) then
 bif inRange v2 (List.length v5) then
 bif List.getD v5 (Int.toNat v2) 0==1 then
 bif inRange v2 (List.length v5) then
 some ((v3,v4,List.set v5 (Int.toNat v2) 5,v6,()))
 else
 none
 else
 rec (v0,v1,IntKind.wrap .i64 (v2+1),v3,v4,v5,v6,())
 else
 none
 else
 rec (v0,v1,IntKind.wrap .i64 (v2+1),v3,v4,v5,v6,())
 else
 none
 else
 some ((v3,v4,v5,v6,()))
 ) (100000000000000000000) (x)
def f37(a0 a1 a2 a3:Int)(a4:LZ):Option (Int×T17) :=
 Option.bind (f69 a0 a1) fun y0 =>
 bif inRange y0.1 (List.length a4) then
 Option.bind (f69 a0 a1) fun y1 =>
 Option.bind (f14 (List.set a4 (Int.toNat y0.1) 3) [] [y1.1]) fun y2 =>
 Option.bind (f72 y2.1) fun y3 =>
 Option.bind (f73 y2.1 y3.1) fun y4 =>
 bif inRange y4.1 (List.length (List.set a4 (Int.toNat y0.1) 3)) then
 Option.bind (f36 ((List.set (List.set a4 (Int.toNat y0.1) 3) (Int.toNat y4.1) 4,[],[]),a2,a3,y2.1) 6 0 2) fun y5 =>
 bif y5.1 !=0 then
 some ((a2,a3,List.set (List.set a4 (Int.toNat y0.1) 3) (Int.toNat y4.1) 4,y2.1,()))
 else
 f37.L1 ((y3.1,(↑(List.length y2.1):Int),0,a2,a3,List.set (List.set a4 (Int.toNat y0.1) 3) (Int.toNat y4.1) 4,y2.1,()))
 else
 none
 else
 none
def f37.S:FnSpec:=⟨⟨[(0,pt 0),(1,.agg [i6,i6])],[(0,.box [.own 1,.nils,.nils,i6,i6,.nils]),(1,a8)]⟩,[⟨[],[(0,.box [.own 1,.nils,.nils,i6,i6,.own 2]),(1,a8),(2,.arr (.int .i64))]⟩],[0,1],fun(a,b,c,d,e,_)=>f37 a b c d e⟩
theorem f37.sound:SO 37 f37.S:=so [b f36.sound,b f69.sound,b f14.sound,b f72.sound,b f73.sound] n0 [] [(8,⟨[(0,pt 0),(4,n6),(50,ow 2),(51,n6),(52,n6)],[(0,.box [.own 1,.nils,.nils,i6,i6,.own 2]),(1,a8),(2,.arr (.int .i64))]⟩)] [] 2 (by kernel_rfl) fun _=>by kernel_rfl
def f129(a0:LZ)(a1:Int):Option (Bool×Unit) :=
 Option.bind (f73 a0 a1) fun y0 =>
 some ((decide (y0.1≥0),()))
def f129.S:FnSpec:=⟨⟨[(0,.c (.row (.int .i64))),(1,n6)],[]⟩,[⟨[(0,nb)],[]⟩],[],fun x=>f129 x.1 x.2.1⟩
theorem f129.sound:SO 129 f129.S:=so [b f73.sound] n0 [] [] [] 0 (by kernel_rfl) fun _=>by kernel_rfl
def f74.L1(x:((LZ×LE×LI)×Int×Int×LZ)×Int×LZ×LZ×T13):Option (LZ×Unit) :=
 it (X:=((LZ×LE×LI)×Int×Int×LZ)×Int×LZ×LZ×T13) (fun rec x=>match x with
 | (v0,v1,v2,v3,v4,v5,v6,_) =>
 bif decide (v5<v4) then
 bif inRange v5 (List.length v3) then
 bif inRange v5 (List.length v0.1.1) then
 bif List.getD v0.1.1 (Int.toNat v5) 0==1 then
 bif decide (List.getD v3 (Int.toNat v5) 0≥v1) then
 Option.bind (f129 v2 v5) fun y0 =>
 bif !y0.1 then
 bif decide (List.length v6+1≤limit 8) then
 rec (v0,v1,v2,v3,v4,IntKind.wrap .i64 (v5+1),v6++[v5],())
 else
 none
 else
 rec (v0,v1,v2,v3,v4,IntKind.wrap .i64 (v5+1),v6,())
 else
 rec (v0,v1,v2,v3,v4,IntKind.wrap .i64 (v5+1),v6,())
 else
 rec (v0,v1,v2,v3,v4,IntKind.wrap .i64 (v5+1),v6,())
 else
 none
 else
 none
 else
 some ((v6,()))
 ) (100000000000000000000) (x)
def f74(a0:(LZ×LE×LI)×Int×Int×LZ)(a1:Int)(a2:LZ):Option (LZ×Unit) :=
 f74.L1 ((a0,a1,a2,a0.2.2.2,(↑(List.length a0.2.2.2):Int),0,[],()))
def f74.S:FnSpec:=⟨⟨[(0,.c (.bptr (.prod (.prod (.row (.int .u8)) (.prod (.row tE) (.row tI))) (.prod (.int .i64) (.prod (.int .i64) (.row (.int .i64))))))),(1,n6),(2,.c (.row (.int .i64)))],[]⟩,[⟨[(0,ow 0)],[(0,.arr (.int .i64))]⟩],[],fun(a,b,c,_)=>f74 a b c⟩
theorem f74.sound:SO 74 f74.S:=so [b f129.sound] n0 [] [(4,⟨[(0,.c (.bptr (.prod (.prod (.row (.int .u8)) (.prod (.row tE) (.row tI))) (.prod (.int .i64) (.prod (.int .i64) (.row (.int .i64))))))),(1,n6),(2,.c (.row (.int .i64))),(7,ow 0),(13,.c (.row (.int .i64))),(14,n6),(15,n6)],[(0,.arr (.int .i64))]⟩)] [] 0 (by kernel_rfl) fun _=>by kernel_rfl
def f75(a0:Int):Option (T1) :=
 Option.bind (α:=T31⊕T1) (
 bif a0==1 then
 some (Sum.inl (0,0,0,0,0,0,0,0,0,0,0,a0,0,0,0,0,20,0,5,1,0,0,()))
 else
 bif a0==2 then
 some (Sum.inl (0,0,0,0,0,0,0,0,0,0,0,a0,0,0,0,0,4,0,2,0,0,0,()))
 else
 bif a0==3 then
 some (Sum.inl (0,0,0,0,0,0,0,0,0,0,0,a0,0,0,0,0,9,0,4,1,0,0,()))
 else
 bif a0==4 then
 some (Sum.inl (0,0,0,0,0,0,0,0,0,0,0,a0,0,0,0,0,6,0,3,0,0,0,()))
 else
 some (Sum.inr (0,0,0,0,0,0,0,0,0,0,0,()))
 ) fun y0 =>
 Sum.elim (fun y1=>match y1 with
 | (_,_,_,_,_,_,_,_,_,_,_,u1_11,u1_12,u1_13,u1_14,u1_15,u1_16,_,u1_18,u1_19,u1_20,u1_21,_) =>
 some ((u1_11,u1_12,u1_13,u1_14,u1_15,u1_16,u1_16,u1_18,u1_19,u1_20,u1_21,()))
 ) (fun z2 =>
 some (z2)
 ) (y0)
def f75.S:FnSpec:=⟨⟨[(0,n6)],[]⟩,[⟨[(0,eS)],[]⟩],[],fun x=>f75 x.1⟩
theorem f75.sound:SO 75 f75.S:=so [] n0 [(13,⟨[(2,pt 0),(3,pt 1)],[(0,bz),(1,bz)]⟩)] [] [] 0 (by kernel_rfl) fun _=>by kernel_rfl
def f38.L1(x:Int×Int×Int×Int×LZ×T49):Option (Int×Int×T49) :=
 it (X:=Int×Int×Int×Int×LZ×T49) (fun rec x=>match x with
 | (v0,v1,v2,v3,v4,v5,v6,v7,_) =>
 bif decide (v1<v0) then
 Option.bind (f74 ((v4,v7,[]),v2,v3,v5) 4 v6) fun y0 =>
 bif (↑(List.length y0.1):Int)==0 then
 some ((v2,v3,v4,v5,v7,()))
 else
 Option.bind (f36 ((v4,v7,[]),v2,v3,v5) (IntKind.wrap .i64 (7+v1)) 0 (↑(List.length y0.1):Int)) fun y1 =>
 bif inRange y1.1 (List.length y0.1) then
 bif decide (List.length v6+1≤limit 8) then
 Option.bind (f36 ((v4,v7,[]),v2,v3,v5) (IntKind.wrap .i64 (16+v1)) 1 (minI (IntKind.wrap .i64 (v3+1)) 3)) fun y2 =>
 Option.bind (f75 (IntKind.wrap .i64 (2+y2.1))) fun y3 =>
 bif decide (List.length v7+1≤limit 88) then
 rec (v0,IntKind.wrap .i64 (v1+1),v2,v3,v4,v5,v6++[List.getD y0.1 (Int.toNat y1.1) 0],v7++[(y3.1,y3.2.1,y3.2.2.1,Int.tmod (List.getD y0.1 (Int.toNat y1.1) 0) 24,IntKind.wrap .i64 (Int.tdiv (List.getD y0.1 (Int.toNat y1.1) 0) 24),y3.2.2.2.2.2.1,y3.2.2.2.2.2.2.1,y3.2.2.2.2.2.2.2.1,y3.2.2.2.2.2.2.2.2.1,y3.2.2.2.2.2.2.2.2.2.1,y3.2.2.2.2.2.2.2.2.2.2.1)],())
 else
 none
 else
 none
 else
 none
 else
 some ((v2,v3,v4,v5,v7,()))
 ) (100000000000000000000) (x)
def f38(a0 a1:Int)(a2 a3:LZ):Option (Int×Int×T49) :=
 f38.L1 ((IntKind.wrap .i64 (a1+2),0,a0,a1,a2,a3,[],[],()))
def f38.S:FnSpec:=⟨⟨[(0,pt 0)],[(0,.box [.own 1,.nils,.nils,i6,i6,.own 2]),(1,a8),(2,.arr (.int .i64))]⟩,[⟨[],[(0,.box [.own 1,.own 3,.nils,i6,i6,.own 2]),(1,a8),(2,.arr (.int .i64)),(3,aE)]⟩],[0,1,2],fun(a,b,c,d,_)=>f38 a b c d⟩
theorem f38.sound:SO 38 f38.S:=so [b f36.sound,b f74.sound,b f75.sound] n0 [] [(3,⟨[(0,pt 0),(2,ow 3),(11,n6),(12,n6)],[(0,.box [.own 1,.own 4,.nils,i6,i6,.own 2]),(1,a8),(2,.arr (.int .i64)),(3,.arr (.int .i64)),(4,aE)]⟩)] [] 3 (by kernel_rfl) fun _=>by kernel_rfl
def f40(a0:LZ)(a1:Int):Option (Int×Unit):=idxF a0 a1
def f40.S:FnSpec:=⟨idxIns,idxOuts,[],fun x=>f40 x.1 x.2.1⟩
def f40.E:Env:=⟨tis,[],[],[],[],[],0,[],1⟩
theorem f40.sound:Sound Go.Proofs.Tryz.prog 40 f40.S:=index_sound (fn:=Go.Proofs.Tryz.f40) (fn2:=Go.Proofs.Tryz.f76) (f2:=76) (t:=23) (u:=5) (q:=3) f40.E (by kernel_rfl) (by kernel_rfl) (by kernel_rfl) orders (by kernel_rfl) (by kernel_rfl) (by kernel_rfl) (by kernel_rfl) (by kernel_rfl) (by kernel_rfl) ⟨tis_ok,EqsOk.nil _,FnsOk.nil⟩ rfl (by intro l c A K;kernel_rfl) (by intro l c n;kernel_rfl)
def f13(a0:LZ)(a1:Int):Option (Int×Unit) :=
 bif decide (a1<0) then
 some ((-1,()))
 else
 bif decide (a1>255) then
 some ((-1,()))
 else
 bif decide ((0:Int)≤0∧0≤minI (↑(List.length a0):Int) 384∧minI (↑(List.length a0):Int) 384≤(↑(List.length a0):Int)) then
 Option.bind (f40 (List.drop 0 (List.take (Int.toNat (minI (↑(List.length a0):Int) 384)) a0)) (IntKind.wrap .u8 a1)) fun y0 =>
 some ((y0.1,()))
 else
 none
def f13.S:FnSpec:=⟨⟨[(0,r8),(1,n6)],[]⟩,[⟨[(0,n6)],[]⟩],[],fun x=>f13 x.1 x.2.1⟩
theorem f13.sound:SO 13 f13.S:=so [b f40.sound] n0 [] [] [] 0 (by kernel_rfl) fun _=>by kernel_rfl
def f39.L1(x:Int×T32):Option (T32) :=
 it (X:=Int×T32) (fun rec x=>match x with
 | (v0,v1,v2,v3,v4,v5,v6,_) =>
 bif decide (v0<3) then
 Option.bind (f36 ((v3,v4,v6),v1,v2,v5) (IntKind.wrap .i64 (50+v0)) 1 3) fun y0 =>
 bif decide (List.length v6+1≤limit 32) then
 rec (IntKind.wrap .i64 (v0+1),v1,v2,v3,v4,v5,v6++[(IntKind.wrap .i64 (1+y0.1),4,v0,0)],())
 else
 none
 else
 some ((v1,v2,v3,v4,v5,v6,()))
 ) (100000000000000000000) (x)
def f39.L2(x:Int×Int×Int×LZ×LE×LZ×LZ×LI×Unit):Option (T32) :=
 it (X:=Int×Int×Int×LZ×LE×LZ×LZ×LI×Unit) (fun rec x=>match x with
 | (v0,v1,v2,v3,v4,v5,v6,v7,_) =>
 bif decide (v0<4) then
 Option.bind (f74 ((v3,v4,v7),v1,v2,v5) (-1) v6) fun y0 =>
 bif (↑(List.length y0.1):Int)==0 then
 rec (IntKind.wrap .i64 (v0+1),v1,v2,v3,v4,v5,v6,v7,())
 else
 Option.bind (f36 ((v3,v4,v7),v1,v2,v5) (IntKind.wrap .i64 (40+v0)) 0 (↑(List.length y0.1):Int)) fun y1 =>
 bif inRange y1.1 (List.length y0.1) then
 bif decide (List.length v6+1≤limit 8) then
 Option.bind (f36 ((v3,v4,v7),v1,v2,v5) (IntKind.wrap .i64 (40+v0)) 1 4) fun y2 =>
 bif decide (List.length v7+1≤limit 32) then
 rec (IntKind.wrap .i64 (v0+1),v1,v2,v3,v4,v5,v6++[List.getD y0.1 (Int.toNat y1.1) 0],v7++[(IntKind.wrap .i64 (1+y2.1),1,Int.tmod (List.getD y0.1 (Int.toNat y1.1) 0) 24,IntKind.wrap .i64 (Int.tdiv (List.getD y0.1 (Int.toNat y1.1) 0) 24))],())
 else
 none
 else
 none
 else
 none
 else
 Option.bind (f13 v3 5) fun y3 =>
 bif decide (y3.1<0) then
 some ((v1,v2,v3,v4,v5,v7,()))
 else
 f39.L1 ((0,v1,v2,v3,v4,v5,v7,()))
 ) (100000000000000000000) (x)
def f39(a0 a1:Int)(a2:LZ)(a3:LE)(a4:LZ):Option (T32) :=
 f39.L2 ((0,a0,a1,a2,a3,a4,[],[],()))
def f39.S:FnSpec:=⟨⟨[(0,pt 0)],[(0,.box [.own 1,.own 2,.nils,i6,i6,.own 3]),(1,a8),(2,aE),(3,.arr (.int .i64))]⟩,[⟨[],[(0,.box [.own 1,.own 2,.own 4,i6,i6,.own 3]),(1,a8),(2,aE),(3,.arr (.int .i64)),(4,aI)]⟩],[0,1,2,3],fun(a,b,c,d,e,_)=>f39 a b c d e⟩
theorem f39.sound:SO 39 f39.S:=so [b f36.sound,b f74.sound,b f13.sound] n0 [] [(3,⟨[(0,pt 0),(2,ow 4),(7,n6)],[(0,.box [.own 1,.own 2,.own 5,i6,i6,.own 3]),(1,a8),(2,aE),(3,.arr (.int .i64)),(4,.arr (.int .i64)),(5,aI)]⟩),(13,⟨[(0,pt 0),(58,n6)],[(0,.box [.own 1,.own 2,.own 4,i6,i6,.own 3]),(1,a8),(2,aE),(3,.arr (.int .i64)),(4,aI)]⟩)] [] 4 (by kernel_rfl) fun _=>by kernel_rfl
def f11.L1(x:T24):Option (Int×T12) :=
 it (X:=T24) (fun rec x=>match x with
 | (v0,v1,v2,v3,v4,v5,v6,v7,v8,v9,v10,v11,v12,v13,v14,v15,_) =>
 bif decide (v0<6) then
 bif inRange (IntKind.wrap .i64 (v0-1)) 6 then
 bif inRange v0 6 then
 Option.bind (f36 ((v15,[],[]),v1,v2,[]) v0 4 2) fun y0 =>
 Option.bind (f35 (List.getD [v3,v5,v7,v9,v11,v13] (Int.toNat (IntKind.wrap .i64 (v0-1))) 0) (List.getD [v4,v6,v8,v10,v12,v14] (Int.toNat (IntKind.wrap .i64 (v0-1))) 0) (List.getD [v3,v5,v7,v9,v11,v13] (Int.toNat v0) 0) (List.getD [v4,v6,v8,v10,v12,v14] (Int.toNat v0) 0) (y0.1==0) v1 v2 v15) fun y1 =>
 rec (IntKind.wrap .i64 (v0+1),y1.1,y1.2.1,v3,v4,v5,v6,v7,v8,v9,v10,v11,v12,v13,v14,y1.2.2.1,())
 else
 none
 else
 none
 else
 Option.bind (f37 v3 v4 v1 v2 v15) fun y2 =>
 Option.bind (f38 y2.1 y2.2.1 y2.2.2.1 y2.2.2.2.1) fun y3 =>
 Option.bind (f39 y3.1 y3.2.1 y3.2.2.1 y3.2.2.2.2.1 y3.2.2.2.1) fun y4 =>
 some ((0,y4.2.2.1,y4.2.2.2.1,y4.2.2.2.2.2.1,()))
 ) (100000000000000000000) (x)
def f11.L2(x:T24):Option (Int×T12) :=
 it (X:=T24) (fun rec x=>match x with
 | (v0,v1,v2,v3,v4,v5,v6,v7,v8,v9,v10,v11,v12,v13,v14,v15,_) =>
 bif decide (v0<6) then
 Option.bind (f34 v0 v1 v2 v15) fun y0 =>
 bif inRange v0 6 then
 rec (IntKind.wrap .i64 (v0+1),y0.2.2.1,y0.2.2.2.1,if Int.toNat v0=0/2 then y0.1 else v3,if Int.toNat v0=(0+1)/2 then y0.2.1 else v4,if Int.toNat v0=(0+1+1)/2 then y0.1 else v5,if Int.toNat v0=(0+1+1+1)/2 then y0.2.1 else v6,if Int.toNat v0=(0+1+1+1+1)/2 then y0.1 else v7,if Int.toNat v0=(0+1+1+1+1+1)/2 then y0.2.1 else v8,if Int.toNat v0=(0+1+1+1+1+1+1)/2 then y0.1 else v9,if Int.toNat v0=(0+1+1+1+1+1+1+1)/2 then y0.2.1 else v10,if Int.toNat v0=(0+1+1+1+1+1+1+1+1)/2 then y0.1 else v11,if Int.toNat v0=(0+1+1+1+1+1+1+1+1+1)/2 then y0.2.1 else v12,if Int.toNat v0=(0+1+1+1+1+1+1+1+1+1+1)/2 then y0.1 else v13,if Int.toNat v0=(0+1+1+1+1+1+1+1+1+1+1+1)/2 then y0.2.1 else v14,y0.2.2.2.2.1,())
 else
 none
 else
 f11.L1 ((1,v1,v2,v3,v4,v5,v6,v7,v8,v9,v10,v11,v12,v13,v14,v15,()))
 ) (100000000000000000000) (x)
def f11(a0 a1:Int):Option (Int×T12) :=
 bif decide (a1<1) then
 some ((1,[],[],[],()))
 else
 bif decide (a1>3) then
 some ((1,[],[],[],()))
 else
 f11.L2 ((0,a0,a1,0,0,0,0,0,0,0,0,0,0,0,0,List.replicate 384 0,()))
def f11.S:FnSpec:=⟨⟨[(0,n6),(1,n6)],[]⟩,[⟨[(0,.agg [.own 0,.own 1,.own 2]),(1,n6)],[(0,a8),(1,aE),(2,aI)]⟩],[],fun x=>f11 x.1 x.2.1⟩
theorem f11.sound:SO 11 f11.S:=so [b f36.sound,b f34.sound,b f35.sound,b f37.sound,b f38.sound,b f39.sound] n0 [] [(7,⟨[(4,pt 0),(6,pt 1),(7,pt 2),(23,n6)],[(0,.box [.nils,.nils,.nils]),(1,.box [.own 3,.nils,.nils,i6,i6,.nils]),(2,.box [i6,i6,i6,i6,i6,i6,i6,i6,i6,i6,i6,i6]),(3,a8)]⟩),(12,⟨[(4,pt 0),(6,pt 1),(7,pt 2),(9,n6)],[(0,.box [.nils,.nils,.nils]),(1,.box [.own 3,.nils,.nils,i6,i6,.nils]),(2,.box [i6,i6,i6,i6,i6,i6,i6,i6,i6,i6,i6,i6]),(3,a8)]⟩)] [] 0 (by kernel_rfl) fun _=>by kernel_rfl
def f108(a0:(T37)×Bool×Bool):Option (Int×Int×Bool×Unit) :=
 Option.bind (f13 a0.1.2.2.2.2.1 3) fun y0 =>
 some ((Int.tmod y0.1 24,IntKind.wrap .i64 (Int.tdiv y0.1 24),decide (y0.1≥0),()))
def f108.S:FnSpec:=⟨⟨[(0,.c (.bptr (.prod (.prod (.int .i64) (.prod (.int .i64) (.prod (.int .i64) (.prod (.int .i64) (.prod (.row (.int .u8)) (.prod (.row tE) (.prod (.row tI) tI))))))) (.prod .bool .bool))))],[]⟩,[⟨[(0,n6),(1,n6),(2,nb)],[]⟩],[],fun x=>f108 x.1⟩
theorem f108.sound:SO 108 f108.S:=so [b f13.sound] n0 [] [] [] 0 (by kernel_rfl) fun _=>by kernel_rfl
def f162(a0:LE):Option (LE×Unit) :=
 bif decide ((0:Int)≤0∧0≤minI (↑(List.length a0):Int) 32∧minI (↑(List.length a0):Int) 32≤(↑(List.length a0):Int)) then
 some ((List.drop 0 (List.take (Int.toNat (minI (↑(List.length a0):Int) 32)) a0),()))
 else
 none
def f162.S:FnSpec:=⟨⟨[(0,rE)],[]⟩,[⟨[(0,rE)],[]⟩],[],fun x=>f162 x.1⟩
theorem f162.sound:SO 162 f162.S:=so [] n0 [] [] [] 0 (by kernel_rfl) fun _=>by kernel_rfl
def f155(a0 a1 a2 a3 a4 a5 a6 a7 a8 a9 a10 a11 a12:Int):Option (Bool×Unit) :=
 bif a1==1 then
 some ((a3==a12,()))
 else
 some ((Bool.false,()))
def f155.S:FnSpec:=⟨⟨[(0,n6),(1,eS),(2,.c (.bptr (.int .i64)))],[]⟩,[⟨[(0,nb)],[]⟩],[],fun(a,b,c,d,e,f,g,h,i,j,k,l,m,_)=>f155 a b c d e f g h i j k l m⟩
theorem f155.sound:SO 155 f155.S:=so [] n0 [] [] [] 0 (by kernel_rfl) fun _=>by kernel_rfl
def f153.L1(x:LE×Int×T3):Option (T3) :=
 it (X:=LE×Int×T3) (fun rec x =>
 bif decide (x.2.2.1<x.2.1) then
 bif inRange x.2.2.1 (List.length x.1) then
 Option.bind (f155 x.2.2.1 (List.getD x.1 (Int.toNat x.2.2.1) zE).1 (List.getD x.1 (Int.toNat x.2.2.1) zE).2.1 (List.getD x.1 (Int.toNat x.2.2.1) zE).2.2.1 (List.getD x.1 (Int.toNat x.2.2.1) zE).2.2.2.1 (List.getD x.1 (Int.toNat x.2.2.1) zE).2.2.2.2.1 (List.getD x.1 (Int.toNat x.2.2.1) zE).2.2.2.2.2.1 (List.getD x.1 (Int.toNat x.2.2.1) zE).2.2.2.2.2.2.1 (List.getD x.1 (Int.toNat x.2.2.1) zE).2.2.2.2.2.2.2.1 (List.getD x.1 (Int.toNat x.2.2.1) zE).2.2.2.2.2.2.2.2.1 (List.getD x.1 (Int.toNat x.2.2.1) zE).2.2.2.2.2.2.2.2.2.1 (List.getD x.1 (Int.toNat x.2.2.1) zE).2.2.2.2.2.2.2.2.2.2 x.2.2.2.1) fun y0 =>
 bif y0.1 then
 some ((x.2.2.1,x.2.2.2.1,()))
 else
 rec (x.1,x.2.1,IntKind.wrap .i64 (x.2.2.1+1),x.2.2.2.1,())
 else
 none
 else
 some ((-1,x.2.2.2.1,()))
 ) (100000000000000000000) (x)
def f153(a0:LE)(a1:Int):Option (T3) :=
 Option.bind (f162 a0) fun y0 =>
 f153.L1 ((y0.1,(↑(List.length y0.1):Int),0,a1,()))
def f153.S:FnSpec:=⟨⟨[(0,rE),(1,.c (.fn 155 [0]))],[(0,.box [i6])]⟩,[⟨[(0,n6)],[(0,.box [i6])]⟩],[0],fun x=>f153 x.1 x.2.1⟩
theorem f153.sound:SO 153 f153.S:=so [b f162.sound,b f155.sound] n0 [] [(3,⟨[(1,.c (.fn 155 [0])),(8,rE),(9,n6),(10,n6)],[(0,.box [i6])]⟩)] [] 1 (by kernel_rfl) fun _=>by kernel_rfl
def f97(a0:LE)(a1:Int):Option (Int×Unit) :=
 Option.bind (f153 a0 a1) fun y0 =>
 some ((y0.1,()))
def f97.S:FnSpec:=⟨⟨[(0,rE),(1,n6)],[]⟩,[⟨[(0,n6)],[]⟩],[],fun x=>f97 x.1 x.2.1⟩
theorem f97.sound:SO 97 f97.S:=so [b f153.sound] n0 [] [] [] 0 (by kernel_rfl) fun _=>by kernel_rfl
def f43(a0 a1:Int):Option (Int×Unit) :=
 bif decide (a0<0) then
 some ((-1,()))
 else
 bif decide (a0≥24) then
 some ((-1,()))
 else
 bif decide (a1<0) then
 some ((-1,()))
 else
 bif decide (a1≥16) then
 some ((-1,()))
 else
 some ((IntKind.wrap .i64 (IntKind.wrap .i64 (a1*24)+a0),()))
def f43.S:FnSpec:=⟨⟨[(0,n6),(1,n6)],[]⟩,[⟨[(0,n6)],[]⟩],[],fun x=>f43 x.1 x.2.1⟩
theorem f43.sound:SO 43 f43.S:=so [] n0 [] [] [] 0 (by kernel_rfl) fun _=>by kernel_rfl
def f154(a0 a1 a2 a3 a4 a5 a6 a7 a8 a9 a10 a11 a12 a13:Int):Option (Bool×Unit) :=
 bif a1 !=0 then
 some ((a4==a12&&(a5==a13&&Bool.true),()))
 else
 some ((Bool.false,()))
def f154.S:FnSpec:=⟨⟨[(0,n6),(1,eS),(2,.c (.bptr (.int .i64))),(3,.c (.bptr (.int .i64)))],[]⟩,[⟨[(0,nb)],[]⟩],[],fun(a,b,c,d,e,f,g,h,i,j,k,l,m,n,_)=>f154 a b c d e f g h i j k l m n⟩
theorem f154.sound:SO 154 f154.S:=so [] (EqsOk.cons eq191 n0) [] [] [] 0 (by kernel_rfl) fun _=>by kernel_rfl
def f153_1.L1(x:LE×T21):Option (Int×T3) :=
 it (X:=LE×T21) (fun rec x =>
 bif decide (x.2.2.1<x.2.1) then
 bif inRange x.2.2.1 (List.length x.1) then
 Option.bind (f154 x.2.2.1 (List.getD x.1 (Int.toNat x.2.2.1) zE).1 (List.getD x.1 (Int.toNat x.2.2.1) zE).2.1 (List.getD x.1 (Int.toNat x.2.2.1) zE).2.2.1 (List.getD x.1 (Int.toNat x.2.2.1) zE).2.2.2.1 (List.getD x.1 (Int.toNat x.2.2.1) zE).2.2.2.2.1 (List.getD x.1 (Int.toNat x.2.2.1) zE).2.2.2.2.2.1 (List.getD x.1 (Int.toNat x.2.2.1) zE).2.2.2.2.2.2.1 (List.getD x.1 (Int.toNat x.2.2.1) zE).2.2.2.2.2.2.2.1 (List.getD x.1 (Int.toNat x.2.2.1) zE).2.2.2.2.2.2.2.2.1 (List.getD x.1 (Int.toNat x.2.2.1) zE).2.2.2.2.2.2.2.2.2.1 (List.getD x.1 (Int.toNat x.2.2.1) zE).2.2.2.2.2.2.2.2.2.2 x.2.2.2.1 x.2.2.2.2.1) fun y0 =>
 bif y0.1 then
 some ((x.2.2.1,x.2.2.2.1,x.2.2.2.2.1,()))
 else
 rec (x.1,x.2.1,IntKind.wrap .i64 (x.2.2.1+1),x.2.2.2.1,x.2.2.2.2.1,())
 else
 none
 else
 some ((-1,x.2.2.2.1,x.2.2.2.2.1,()))
 ) (100000000000000000000) (x)
def f153_1(a0:LE)(a1 a2:Int):Option (Int×T3) :=
 Option.bind (f162 a0) fun y0 =>
 f153_1.L1 ((y0.1,(↑(List.length y0.1):Int),0,a1,a2,()))
def f153_1.S:FnSpec:=⟨⟨[(0,rE),(1,.c (.fn 154 [0,1]))],[(0,.box [i6]),(1,.box [i6])]⟩,[⟨[(0,n6)],[(0,.box [i6]),(1,.box [i6])]⟩],[0,1],fun(a,b,c,_)=>f153_1 a b c⟩
theorem f153_1.sound:SO 153 f153_1.S:=so [b f162.sound,b f154.sound] n0 [] [(3,⟨[(1,.c (.fn 154 [0,1])),(8,rE),(9,n6),(10,n6)],[(0,.box [i6]),(1,.box [i6])]⟩)] [] 2 (by kernel_rfl) fun _=>by kernel_rfl
def f96(a0:LE)(a1 a2:Int):Option (Int×Unit) :=
 Option.bind (f153_1 a0 a1 a2) fun y0 =>
 some ((y0.1,()))
def f96.S:FnSpec:=⟨⟨[(0,rE),(1,n6),(2,n6)],[]⟩,[⟨[(0,n6)],[]⟩],[],fun(a,b,c,_)=>f96 a b c⟩
theorem f96.sound:SO 96 f96.S:=so [b f153_1.sound] n0 [] [] [] 0 (by kernel_rfl) fun _=>by kernel_rfl
def f109.L1(x:LE×Int×T13):Option (Int×Unit) :=
 it (X:=LE×Int×T13) (fun rec x =>
 bif decide (x.2.2.2.1<x.2.2.1) then
 bif inRange x.2.2.2.1 (List.length x.2.2.2.2.1) then
 bif decide (List.getD x.2.2.2.2.1 (Int.toNat x.2.2.2.1) 0≥0) then
 bif decide (x.2.1<0) then
 Option.bind (f96 x.1 (Int.tmod x.2.2.2.1 24) (IntKind.wrap .i64 (Int.tdiv x.2.2.2.1 24))) fun y0 =>
 bif decide (y0.1<0) then
 rec (x.1,x.2.2.2.1,x.2.2.1,IntKind.wrap .i64 (x.2.2.2.1+1),x.2.2.2.2.1,())
 else
 rec (x.1,x.2.1,x.2.2.1,IntKind.wrap .i64 (x.2.2.2.1+1),x.2.2.2.2.1,())
 else
 bif inRange x.2.1 (List.length x.2.2.2.2.1) then
 bif decide (List.getD x.2.2.2.2.1 (Int.toNat x.2.2.2.1) 0<List.getD x.2.2.2.2.1 (Int.toNat x.2.1) 0) then
 Option.bind (f96 x.1 (Int.tmod x.2.2.2.1 24) (IntKind.wrap .i64 (Int.tdiv x.2.2.2.1 24))) fun y1 =>
 bif decide (y1.1<0) then
 rec (x.1,x.2.2.2.1,x.2.2.1,IntKind.wrap .i64 (x.2.2.2.1+1),x.2.2.2.2.1,())
 else
 rec (x.1,x.2.1,x.2.2.1,IntKind.wrap .i64 (x.2.2.2.1+1),x.2.2.2.2.1,())
 else
 rec (x.1,x.2.1,x.2.2.1,IntKind.wrap .i64 (x.2.2.2.1+1),x.2.2.2.2.1,())
 else
 none
 else
 rec (x.1,x.2.1,x.2.2.1,IntKind.wrap .i64 (x.2.2.2.1+1),x.2.2.2.2.1,())
 else
 none
 else
 some ((x.2.1,()))
 ) (100000000000000000000) (x)
def f109(a0:LZ)(a1:LE)(a2 a3:Int):Option (Int×Unit) :=
 Option.bind (f43 a2 a3) fun y0 =>
 Option.bind (f14 a0 [] [y0.1]) fun y1 =>
 f109.L1 ((a1,-1,(↑(List.length y1.1):Int),0,y1.1,()))
def f109.S:FnSpec:=⟨⟨[(0,r8),(1,rE),(2,n6),(3,n6)],[]⟩,[⟨[(0,n6)],[]⟩],[],fun(a,b,c,d,_)=>f109 a b c d⟩
theorem f109.sound:SO 109 f109.S:=so [b f14.sound,b f43.sound,b f96.sound] n0 [] [(5,⟨[(1,rE),(9,n6),(10,ow 0),(19,ow 0),(20,n6),(21,n6)],[(0,.arr (.int .i64))]⟩)] [] 0 (by kernel_rfl) fun _=>by kernel_rfl
def f100.L1(x:Int×Int×T26):Option (T2) :=
 it (X:=Int×Int×T26) (fun rec x=>match x with
 | (v0,v1,v2,v3,v4,v5,v6,v7,v8,v9,v10,v11,v12,v13,v14,v15,v16,_) =>
 bif decide (v2<4) then
 Option.bind (f97 v14 v2) fun y0 =>
 bif decide (y0.1<0) then
 rec (v0,v1,IntKind.wrap .i64 (v2+1),v3,v4,v5,v6,v7,v8,v9,v10,v11,v12,v13,v14,v15,v16,())
 else
 bif inRange y0.1 (List.length v14) then
 Option.bind (α:=Int×Int×Int×Nat×T26⊕T2) (
 Option.bind (f109 v13 v16 v0 v1) fun y1 =>
 bif decide (y1.1≥0) then
 let s0:LE:=List.set v14 (Int.toNat y0.1) ((List.getD v14 (Int.toNat y0.1) zE).1,(List.getD v14 (Int.toNat y0.1) zE).2.1,(List.getD v14 (Int.toNat y0.1) zE).2.2.1,Int.tmod y1.1 24,(List.getD v14 (Int.toNat y0.1) zE).2.2.2.2.1,(List.getD v14 (Int.toNat y0.1) zE).2.2.2.2.2.1,(List.getD v14 (Int.toNat y0.1) zE).2.2.2.2.2.2.1,(List.getD v14 (Int.toNat y0.1) zE).2.2.2.2.2.2.2.1,(List.getD v14 (Int.toNat y0.1) zE).2.2.2.2.2.2.2.2.1,(List.getD v14 (Int.toNat y0.1) zE).2.2.2.2.2.2.2.2.2.1,(List.getD v14 (Int.toNat y0.1) zE).2.2.2.2.2.2.2.2.2.2)
 let s1:LE:=List.set s0 (Int.toNat y0.1) ((List.getD s0 (Int.toNat y0.1) zE).1,(List.getD s0 (Int.toNat y0.1) zE).2.1,(List.getD s0 (Int.toNat y0.1) zE).2.2.1,(List.getD s0 (Int.toNat y0.1) zE).2.2.2.1,IntKind.wrap .i64 (Int.tdiv y1.1 24),(List.getD s0 (Int.toNat y0.1) zE).2.2.2.2.2.1,(List.getD s0 (Int.toNat y0.1) zE).2.2.2.2.2.2.1,(List.getD s0 (Int.toNat y0.1) zE).2.2.2.2.2.2.2.1,(List.getD s0 (Int.toNat y0.1) zE).2.2.2.2.2.2.2.2.1,(List.getD s0 (Int.toNat y0.1) zE).2.2.2.2.2.2.2.2.2.1,(List.getD s0 (Int.toNat y0.1) zE).2.2.2.2.2.2.2.2.2.2)
 some (Sum.inl (v0,v1,y0.1,Int.toNat y0.1,v2,v3,v4,v5,v6,v7,v8,v9,v10,v11,v12,v13,s1,v15,v16,()))
 else
 some (Sum.inl (v0,v1,y0.1,Int.toNat y0.1,v2,v3,v4,v5,v6,v7,v8,v9,v10,v11,v12,v13,v14,v15,v16,()))
 ) fun y2 =>
 Sum.elim (fun y3=>match y3 with
 | (u3_0,u3_1,u3_2,u3_3,u3_4,u3_5,u3_6,u3_7,u3_8,u3_9,u3_10,u3_11,u3_12,u3_13,u3_14,u3_15,u3_16,u3_17,u3_18,_) =>
 bif inRange u3_2 (List.length u3_18) then
 let s0:LE:=List.set u3_18 (Int.toNat u3_2) ((List.getD u3_16 u3_3 zE).1,(List.getD u3_16 u3_3 zE).2.1,(List.getD u3_16 u3_3 zE).2.2.1,(List.getD u3_16 u3_3 zE).2.2.2.1,(List.getD u3_16 u3_3 zE).2.2.2.2.1,(List.getD u3_16 u3_3 zE).2.2.2.2.2.1,(List.getD u3_16 u3_3 zE).2.2.2.2.2.2.1,(List.getD u3_16 u3_3 zE).2.2.2.2.2.2.2.1,(List.getD u3_16 u3_3 zE).2.2.2.2.2.2.2.2.1,(List.getD u3_16 u3_3 zE).2.2.2.2.2.2.2.2.2.1,(List.getD u3_16 u3_3 zE).2.2.2.2.2.2.2.2.2.2)
 rec (u3_0,u3_1,IntKind.wrap .i64 (u3_4+1),u3_5,u3_6,u3_7,u3_8,u3_9,u3_10,u3_11,u3_12,u3_13,u3_14,u3_15,u3_16,u3_17,s0,())
 else
 none
 ) (fun z4 =>
 some (z4)
 ) (y2)
 else
 none
 else
 some ((v3,v4,v5,v6,v7,v8,v9,v10,v11,v12,v13,v14,v15,()))
 ) (100000000000000000000) (x)
def f100(a0 a1 a2 a3 a4 a5 a6 a7:Int)(a8 a9:Bool)(a10:LZ)(a11:LE)(a12:LI):Option (T2) :=
 Option.bind (f108 ((a0,a1,a2,a3,a10,a11,a12,a4,a5,a6,a7),a8,a9)) fun y0 =>
 f100.L1 ((y0.1,y0.2.1,0,a0,a1,a2,a3,a4,a5,a6,a7,a8,a9,a10,a11,a12,List.replicate 32 zE,()))
def f100.S:FnSpec:=⟨⟨[(0,pt 0)],[(0,bx (.own 1) (.own 2) (.own 3)),(1,a8),(2,aE),(3,aI)]⟩,[⟨[],[(0,bx (.own 1) (.own 2) (.own 3)),(1,a8),(2,aE),(3,aI)]⟩],[0,1,2,3],fun(a,b,c,d,e,f,g,h,i,j,k,l,m,_)=>f100 a b c d e f g h i j k l m⟩
theorem f100.sound:SO 100 f100.S:=so [b f108.sound,b f97.sound,b f109.sound] n0 [(12,⟨[(0,pt 0),(2,n6),(3,n6),(5,ow 4),(7,n6),(8,.c (.eptr 2 0)),(17,n6)],[(0,bx (.own 1) (.own 2) (.own 3)),(1,a8),(2,aE),(3,aI),(4,aE)]⟩)] [(4,⟨[(0,pt 0),(2,n6),(3,n6),(5,ow 4),(17,n6)],[(0,bx (.own 1) (.own 2) (.own 3)),(1,a8),(2,aE),(3,aI),(4,aE)]⟩)] [] 4 (by kernel_rfl) fun _=>by kernel_rfl
def f175(a0 a1 a2 a3 a4 a5 a6 a7 a8 a9 a10 a11:Int):Option (Bool×Unit) :=
 some ((a1==0,()))
def f175.S:FnSpec:=⟨⟨[(0,n6),(1,eS)],[]⟩,[⟨[(0,nb)],[]⟩],[],fun(a,b,c,d,e,f,g,h,i,j,k,l,_)=>f175 a b c d e f g h i j k l⟩
theorem f175.sound:SO 175 f175.S:=so [] n0 [] [] [] 0 (by kernel_rfl) fun _=>by kernel_rfl
def f153_2.L1(x:LE×T3):Option (Int×Unit) :=
 it (X:=LE×T3) (fun rec x =>
 bif decide (x.2.2.1<x.2.1) then
 bif inRange x.2.2.1 (List.length x.1) then
 Option.bind (f175 x.2.2.1 (List.getD x.1 (Int.toNat x.2.2.1) zE).1 (List.getD x.1 (Int.toNat x.2.2.1) zE).2.1 (List.getD x.1 (Int.toNat x.2.2.1) zE).2.2.1 (List.getD x.1 (Int.toNat x.2.2.1) zE).2.2.2.1 (List.getD x.1 (Int.toNat x.2.2.1) zE).2.2.2.2.1 (List.getD x.1 (Int.toNat x.2.2.1) zE).2.2.2.2.2.1 (List.getD x.1 (Int.toNat x.2.2.1) zE).2.2.2.2.2.2.1 (List.getD x.1 (Int.toNat x.2.2.1) zE).2.2.2.2.2.2.2.1 (List.getD x.1 (Int.toNat x.2.2.1) zE).2.2.2.2.2.2.2.2.1 (List.getD x.1 (Int.toNat x.2.2.1) zE).2.2.2.2.2.2.2.2.2.1 (List.getD x.1 (Int.toNat x.2.2.1) zE).2.2.2.2.2.2.2.2.2.2) fun y0 =>
 bif y0.1 then
 some ((x.2.2.1,()))
 else
 rec (x.1,x.2.1,IntKind.wrap .i64 (x.2.2.1+1),())
 else
 none
 else
 some ((-1,()))
 ) (100000000000000000000) (x)
def f153_2(a0:LE):Option (Int×Unit) :=
 Option.bind (f162 a0) fun y0 =>
 f153_2.L1 ((y0.1,(↑(List.length y0.1):Int),0,()))
def f153_2.S:FnSpec:=⟨⟨[(0,rE),(1,.c (.fn 175 []))],[]⟩,[⟨[(0,n6)],[]⟩],[],fun x=>f153_2 x.1⟩
theorem f153_2.sound:SO 153 f153_2.S:=so [b f162.sound,b f175.sound] n0 [] [(3,⟨[(1,.c (.fn 175 [])),(8,rE),(9,n6),(10,n6)],[]⟩)] [] 0 (by kernel_rfl) fun _=>by kernel_rfl
def f104(a0:LE):Option (LE×Unit):=cloneF (.prod (.int .i64) (.prod (.int .i64) (.prod (.int .i64) (.prod (.int .i64) (.prod (.int .i64) (.prod (.int .i64) (.prod (.int .i64) (.prod (.int .i64) (.prod (.int .i64) (.prod (.int .i64) (.int .i64))))))))))) 88 a0
def f104.S:FnSpec:=⟨cloneIns (.prod (.int .i64) (.prod (.int .i64) (.prod (.int .i64) (.prod (.int .i64) (.prod (.int .i64) (.prod (.int .i64) (.prod (.int .i64) (.prod (.int .i64) (.prod (.int .i64) (.prod (.int .i64) (.int .i64))))))))))),cloneOuts (.prod (.int .i64) (.prod (.int .i64) (.prod (.int .i64) (.prod (.int .i64) (.prod (.int .i64) (.prod (.int .i64) (.prod (.int .i64) (.prod (.int .i64) (.prod (.int .i64) (.prod (.int .i64) (.int .i64))))))))))),[],fun x=>f104 x.1⟩
def f104.E:Env:=⟨tis,[],[],[],[],[],0,[],1⟩
theorem f104.sound:Sound Go.Proofs.Tryz.prog 104 f104.S:=clone_sound (fn:=Go.Proofs.Tryz.f104) (t:=24) (q:=45) (u:=4) (bytes:=88) (i:=ty24) f104.E (by kernel_rfl) (by kernel_rfl) (by kernel_rfl) orders (by kernel_rfl) ⟨tis_ok,EqsOk.nil _,FnsOk.nil⟩ rfl (by kernel_rfl) (by kernel_rfl) (by intro l A K;kernel_rfl) (by kernel_rfl) (by intro l;kernel_rfl)
def f156(a0:LE)(a1 a2 a3 a4 a5 a6 a7 a8 a9 a10 a11:Int):Option (T61) :=
 bif decide (a1<1) then
 some ((0,3,[],()))
 else
 bif decide (a1>4) then
 some ((0,3,[],()))
 else
 Option.bind (f153_2 a0) fun y0 =>
 bif decide (y0.1<0) then
 some ((0,5,[],()))
 else
 Option.bind (f104 a0) fun y1 =>
 bif inRange y0.1 (List.length a0) then
 bif inRange y0.1 (List.length y1.1) then
 let s0:LE:=List.set y1.1 (Int.toNat y0.1) (a1,Int.tmod (IntKind.wrap .i64 (Int.tmod (IntKind.wrap .i64 ((List.getD a0 (Int.toNat y0.1) zE).2.1+1)) 256+256)) 256,a3,a4,a5,a6,a7,a8,a9,a10,a11)
 some ((y0.1,0,s0,()))
 else
 none
 else
 none
def f156.S:FnSpec:=⟨⟨[(0,rE),(1,eS)],[]⟩,[⟨[(0,ow 0),(1,n6),(2,n6)],[(0,aE)]⟩],[],fun(a,b,c,d,e,f,g,h,i,j,k,l,_)=>f156 a b c d e f g h i j k l⟩
theorem f156.sound:SO 156 f156.S:=so [b f153_2.sound,b f104.sound] n0 [] [] [] 0 (by kernel_rfl) fun _=>by kernel_rfl
def f101(a0 a1 a2 a3 a4 a5 a6 a7 a8 a9 a10 a11 a12 a13 a14 a15 a16 a17 a18:Int)(a19 a20:Bool)(a21:LZ)(a22:LE)(a23:LI):Option (T28) :=
 Option.bind (f156 a22 a0 a1 a2 a3 a4 a5 a6 a7 a8 a9 a10) fun y0 =>
 bif y0.2.1==0 then
 some ((a11,a12,a13,a14,a15,a16,a17,a18,a19,a20,a21,a23,y0.2.2.1,()))
 else
 some ((a11,a12,a13,a14,a15,a16,a17,a18,a19,a20,a21,a23,a22,()))
def f101.S:FnSpec:=⟨⟨[(0,pt 0),(1,eS)],[(0,bx (.own 1) (.own 2) (.own 3)),(1,a8),(2,aE),(3,aI)]⟩,[⟨[],[(0,bx (.own 1) (.own 4) (.own 3)),(1,a8),(3,aI),(4,aE)]⟩],[0,1,3],fun(a,b,c,d,e,f,g,h,i,j,k,l,m,n,o,p,q,r,s,t,u,v,w,y,_)=>f101 a b c d e f g h i j k l m n o p q r s t u v w y⟩
theorem f101.sound:SO 101 f101.S:=so [b f156.sound] n0 [] [] [] 4 (by kernel_rfl) fun _=>by kernel_rfl
def f105(a0:LI):Option (LI×Unit):=cloneF (.prod (.int .i64) (.prod (.int .i64) (.prod (.int .i64) (.int .i64)))) 32 a0
def f105.S:FnSpec:=⟨cloneIns (.prod (.int .i64) (.prod (.int .i64) (.prod (.int .i64) (.int .i64)))),cloneOuts (.prod (.int .i64) (.prod (.int .i64) (.prod (.int .i64) (.int .i64)))),[],fun x=>f105 x.1⟩
def f105.E:Env:=⟨tis,[],[],[],[],[],0,[],1⟩
theorem f105.sound:Sound Go.Proofs.Tryz.prog 105 f105.S:=clone_sound (fn:=Go.Proofs.Tryz.f105) (t:=25) (q:=106) (u:=4) (bytes:=32) (i:=ty25) f105.E (by kernel_rfl) (by kernel_rfl) (by kernel_rfl) orders (by kernel_rfl) ⟨tis_ok,EqsOk.nil _,FnsOk.nil⟩ rfl (by kernel_rfl) (by kernel_rfl) (by intro l A K;kernel_rfl) (by kernel_rfl) (by intro l;kernel_rfl)
def f157.L1(x:LI×Int×Int×T21):Option (Int×Unit) :=
 it (X:=LI×Int×Int×T21) (fun rec x=>match x with
 | (v0,v1,v2,v3,v4,v5,v6,_) =>
 bif decide (v2<v1) then
 bif inRange v2 (List.length v0) then
 bif v3==(List.getD v0 (Int.toNat v2) (0,0,0,0)).1&&(v4==(List.getD v0 (Int.toNat v2) (0,0,0,0)).2.1&&(v5==(List.getD v0 (Int.toNat v2) (0,0,0,0)).2.2.1&&(v6==(List.getD v0 (Int.toNat v2) (0,0,0,0)).2.2.2&&Bool.true))) then
 some ((v2,()))
 else
 rec (v0,v1,IntKind.wrap .i64 (v2+1),v3,v4,v5,v6,())
 else
 none
 else
 some ((-1,()))
 ) (100000000000000000000) (x)
def f157(a0:LI)(a1 a2 a3 a4:Int):Option (Int×Unit) :=
 f157.L1 ((a0,(↑(List.length a0):Int),0,a1,a2,a3,a4,()))
def f157.S:FnSpec:=⟨⟨[(0,rI),(1,.agg [i6,i6,i6,i6])],[]⟩,[⟨[(0,n6)],[]⟩],[],fun(a,b,c,d,e,_)=>f157 a b c d e⟩
theorem f157.sound:SO 157 f157.S:=so [] (EqsOk.cons eq106 n0) [] [(3,⟨[(0,rI),(3,pt 0),(7,n6),(8,n6)],[(0,.box [i6,i6,i6,i6])]⟩)] [] 0 (by kernel_rfl) fun _=>by kernel_rfl
def f102.L1(x:LI×Int×T54):Option (LI×Unit) :=
 it (X:=LI×Int×T54) (fun rec x =>
 bif decide (x.2.2.1<x.2.1) then
 bif inRange x.2.2.1 (List.length x.1) then
 bif decide ((0:Int)≤0∧0≤minI (↑(List.length x.2.2.2.1):Int) 40∧minI (↑(List.length x.2.2.2.1):Int) 40≤(↑(List.length x.2.2.2.1):Int)) then
 Option.bind (f157 (List.drop 0 (List.take (Int.toNat (minI (↑(List.length x.2.2.2.1):Int) 40)) x.2.2.2.1)) 0 0 0 0) fun y0 =>
 bif decide (y0.1≥0) then
 bif inRange y0.1 (List.length x.2.2.2.1) then
 let s0:LI:=List.set x.2.2.2.1 (Int.toNat y0.1) ((List.getD x.1 (Int.toNat x.2.2.1) (0,0,0,0)).1,(List.getD x.1 (Int.toNat x.2.2.1) (0,0,0,0)).2.1,(List.getD x.1 (Int.toNat x.2.2.1) (0,0,0,0)).2.2.1,(List.getD x.1 (Int.toNat x.2.2.1) (0,0,0,0)).2.2.2)
 rec (x.1,x.2.1,IntKind.wrap .i64 (x.2.2.1+1),s0,())
 else
 none
 else
 rec (x.1,x.2.1,IntKind.wrap .i64 (x.2.2.1+1),x.2.2.2.1,())
 else
 none
 else
 none
 else
 some ((x.2.2.2.1,()))
 ) (100000000000000000000) (x)
def f102(a0 a1:LI):Option (LI×Unit) :=
 Option.bind (f105 a0) fun y0 =>
 f102.L1 ((a1,(↑(List.length a1):Int),0,y0.1,()))
def f102.S:FnSpec:=⟨⟨[(0,rI),(1,rI)],[]⟩,[⟨[(0,ow 0)],[(0,aI)]⟩],[],fun x=>f102 x.1 x.2.1⟩
theorem f102.sound:SO 102 f102.S:=so [b f105.sound,b f157.sound] n0 [] [(4,⟨[(5,ow 0),(11,rI),(12,n6),(13,n6)],[(0,aI)]⟩)] [] 0 (by kernel_rfl) fun _=>by kernel_rfl
def f52.L1(x:T45):Option (T57) :=
 it (X:=T45) (fun rec x=>match x with
 | (v0,v1,v2,v3,v4,v5,v6,v7,v8,v9,v10,v11,v12,v13,v14,v15,v16,_) =>
 bif decide (v1<v0) then
 bif inRange v1 (List.length v13) then
 Option.bind (f96 v15 (List.getD v13 (Int.toNat v1) zE).2.2.2.1 (List.getD v13 (Int.toNat v1) zE).2.2.2.2.1) fun y0 =>
 bif decide (y0.1<0) then
 Option.bind (f101 (List.getD v13 (Int.toNat v1) zE).1 (List.getD v13 (Int.toNat v1) zE).2.1 (List.getD v13 (Int.toNat v1) zE).2.2.1 (List.getD v13 (Int.toNat v1) zE).2.2.2.1 (List.getD v13 (Int.toNat v1) zE).2.2.2.2.1 (List.getD v13 (Int.toNat v1) zE).2.2.2.2.2.1 (List.getD v13 (Int.toNat v1) zE).2.2.2.2.2.2.1 (List.getD v13 (Int.toNat v1) zE).2.2.2.2.2.2.2.1 (List.getD v13 (Int.toNat v1) zE).2.2.2.2.2.2.2.2.1 (List.getD v13 (Int.toNat v1) zE).2.2.2.2.2.2.2.2.2.1 (List.getD v13 (Int.toNat v1) zE).2.2.2.2.2.2.2.2.2.2 v2 v3 v4 v5 v6 v7 v8 v9 v10 v11 v14 v15 v12) fun y1 =>
 rec (v0,IntKind.wrap .i64 (v1+1),y1.1,y1.2.1,y1.2.2.1,y1.2.2.2.1,y1.2.2.2.2.1,y1.2.2.2.2.2.1,y1.2.2.2.2.2.2.1,y1.2.2.2.2.2.2.2.1,y1.2.2.2.2.2.2.2.2.1,y1.2.2.2.2.2.2.2.2.2.1,y1.2.2.2.2.2.2.2.2.2.2.2.1,v13,y1.2.2.2.2.2.2.2.2.2.2.1,y1.2.2.2.2.2.2.2.2.2.2.2.2.1,v16,())
 else
 rec (v0,IntKind.wrap .i64 (v1+1),v2,v3,v4,v5,v6,v7,v8,v9,v10,v11,v12,v13,v14,v15,v16,())
 else
 none
 else
 Option.bind (f102 v12 v16) fun y2 =>
 some ((v2,v3,v4,v5,v6,v7,v8,v9,v10,v11,v12,v14,v15,y2.1,()))
 ) (100000000000000000000) (x)
def f52(a0 a1 a2 a3 a4 a5 a6 a7:Int)(a8 a9:Bool)(a10:LE)(a11:LI):Option (T57) :=
 Option.bind (f11 a0 a2) fun y0 =>
 Option.bind (f100 a0 a1 a2 a3 a4 a5 a6 a7 a8 a9 y0.2.1 a10 a11) fun y1 =>
 f52.L1 (((↑(List.length y0.2.2.1):Int),0,y1.1,y1.2.1,y1.2.2.1,y1.2.2.2.1,y1.2.2.2.2.1,y1.2.2.2.2.2.1,y1.2.2.2.2.2.2.1,y1.2.2.2.2.2.2.2.1,y1.2.2.2.2.2.2.2.2.1,y1.2.2.2.2.2.2.2.2.2.1,y1.2.2.2.2.2.2.2.2.2.2.2.2.1,y0.2.2.1,y1.2.2.2.2.2.2.2.2.2.2.1,y1.2.2.2.2.2.2.2.2.2.2.2.1,y0.2.2.2.1,()))
def f52.S:FnSpec:=⟨⟨[(0,pt 0)],[(0,bx .nils (.own 1) (.own 2)),(1,aE),(2,aI)]⟩,[⟨[],[(0,bx (.own 3) (.own 4) (.own 5)),(2,aI),(3,a8),(4,aE),(5,aI)]⟩],[0,2],fun(a,b,c,d,e,f,g,h,i,j,k,l,_)=>f52 a b c d e f g h i j k l⟩
theorem f52.sound:SO 52 f52.S:=so [b f11.sound,b f96.sound,b f100.sound,b f101.sound,b f102.sound] n0 [] [(5,⟨[(0,pt 0),(2,pt 3),(29,ow 4),(30,n6),(31,n6)],[(0,bx (.own 5) (.own 6) (.own 2)),(2,aI),(3,.box [.own 5,.own 4,.own 7]),(4,aE),(5,a8),(6,aE),(7,aI)]⟩)] [] 3 (by kernel_rfl) fun _=>by kernel_rfl
def f19(a0:Int):Option (T0) :=
 Option.bind (f52 a0 0 1 0 0 0 0 0 Bool.false Bool.false (List.replicate 32 zE) (List.replicate 40 (0,0,0,0))) fun y0 =>
 some ((y0.1,y0.2.1,y0.2.2.1,y0.2.2.2.1,y0.2.2.2.2.1,y0.2.2.2.2.2.1,y0.2.2.2.2.2.2.1,y0.2.2.2.2.2.2.2.1,y0.2.2.2.2.2.2.2.2.2.2.2.1,y0.2.2.2.2.2.2.2.2.2.2.2.2.1,y0.2.2.2.2.2.2.2.2.2.2.2.2.2.1,()))
def f19.S:FnSpec:=⟨⟨[(0,n6)],[]⟩,[⟨[(0,aw (.own 0) (.own 1) (.own 2))],[(0,a8),(1,aE),(2,aI)]⟩],[],fun x=>f19 x.1⟩
theorem f19.sound:SO 19 f19.S:=so [b f52.sound] n0 [] [] [] 0 (by kernel_rfl) fun _=>by kernel_rfl
def f103(a0:LZ):Option (LZ×Unit):=cloneF (.int .u8) 1 a0
def f103.S:FnSpec:=⟨cloneIns (.int .u8),cloneOuts (.int .u8),[],fun x=>f103 x.1⟩
def f103.E:Env:=⟨tis,[],[],[],[],[],0,[],1⟩
theorem f103.sound:Sound Go.Proofs.Tryz.prog 103 f103.S:=clone_sound (fn:=Go.Proofs.Tryz.f103) (t:=23) (q:=5) (u:=4) (bytes:=1) (i:=ty23) f103.E (by kernel_rfl) (by kernel_rfl) (by kernel_rfl) orders (by kernel_rfl) ⟨tis_ok,EqsOk.nil _,FnsOk.nil⟩ rfl (by kernel_rfl) (by kernel_rfl) (by intro l A K;kernel_rfl) (by kernel_rfl) (by intro l;kernel_rfl)
def f53(a0 a1 a2 a3:Int)(a4:LZ)(a5:LE)(a6:LI)(a7 a8 a9 a10:Int):Option (T0) :=
 Option.bind (f103 a4) fun y0 =>
 Option.bind (f104 a5) fun y1 =>
 Option.bind (f105 a6) fun y2 =>
 some ((a0,a1,a2,a3,a7,a8,a9,a10,y0.1,y1.1,y2.1,()))
def f53.S:FnSpec:=⟨⟨[(0,wS)],[]⟩,[⟨[(0,aw (.own 0) (.own 1) (.own 2))],[(0,a8),(1,aE),(2,aI)]⟩],[],fun(a,b,c,d,e,f,g,h,i,j,k,_)=>f53 a b c d e f g h i j k⟩
theorem f53.sound:SO 53 f53.S:=so [b f104.sound,b f105.sound,b f103.sound] n0 [] [] [] 0 (by kernel_rfl) fun _=>by kernel_rfl
def f107(a0 a1 a2 a3 a4 a5 a6 a7 a8 a9 a10:Int):Option (Bool×Unit) :=
 some ((a0==1,()))
def f107.S:FnSpec:=⟨⟨[(0,eS)],[]⟩,[⟨[(0,nb)],[]⟩],[],fun(a,b,c,d,e,f,g,h,i,j,k,_)=>f107 a b c d e f g h i j k⟩
theorem f107.sound:SO 107 f107.S:=so [] n0 [] [] [] 0 (by kernel_rfl) fun _=>by kernel_rfl
def f158.L1(x:LE×T3):Option (Int×Unit) :=
 it (X:=LE×T3) (fun rec x =>
 bif decide (x.2.2.1<x.2.1) then
 bif inRange x.2.2.1 (List.length x.1) then
 Option.bind (f107 (List.getD x.1 (Int.toNat x.2.2.1) zE).1 (List.getD x.1 (Int.toNat x.2.2.1) zE).2.1 (List.getD x.1 (Int.toNat x.2.2.1) zE).2.2.1 (List.getD x.1 (Int.toNat x.2.2.1) zE).2.2.2.1 (List.getD x.1 (Int.toNat x.2.2.1) zE).2.2.2.2.1 (List.getD x.1 (Int.toNat x.2.2.1) zE).2.2.2.2.2.1 (List.getD x.1 (Int.toNat x.2.2.1) zE).2.2.2.2.2.2.1 (List.getD x.1 (Int.toNat x.2.2.1) zE).2.2.2.2.2.2.2.1 (List.getD x.1 (Int.toNat x.2.2.1) zE).2.2.2.2.2.2.2.2.1 (List.getD x.1 (Int.toNat x.2.2.1) zE).2.2.2.2.2.2.2.2.2.1 (List.getD x.1 (Int.toNat x.2.2.1) zE).2.2.2.2.2.2.2.2.2.2) fun y0 =>
 bif y0.1 then
 some ((x.2.2.1,()))
 else
 rec (x.1,x.2.1,IntKind.wrap .i64 (x.2.2.1+1),())
 else
 none
 else
 some ((-1,()))
 ) (100000000000000000000) (x)
def f158(a0:LE):Option (Int×Unit) :=
 f158.L1 ((a0,(↑(List.length a0):Int),0,()))
def f158.S:FnSpec:=⟨⟨[(0,rE),(1,.c (.fn 107 []))],[]⟩,[⟨[(0,n6)],[]⟩],[],fun x=>f158 x.1⟩
theorem f158.sound:SO 158 f158.S:=so [b f107.sound] n0 [] [(3,⟨[(0,rE),(1,.c (.fn 107 [])),(7,n6),(8,n6)],[]⟩)] [] 0 (by kernel_rfl) fun _=>by kernel_rfl
def f106(a0:LE):Option (Bool×Unit) :=
 Option.bind (f158 a0) fun y0 =>
 some ((decide (y0.1≥0),()))
def f106.S:FnSpec:=⟨⟨[(0,rE),(1,.c (.fn 107 []))],[]⟩,[⟨[(0,nb)],[]⟩],[],fun x=>f106 x.1⟩
theorem f106.sound:SO 106 f106.S:=so [b f158.sound] n0 [] [] [] 0 (by kernel_rfl) fun _=>by kernel_rfl
def f54(a0:(T37)×Bool×Bool):Option (Bool×Unit) :=
 Option.bind (f106 a0.1.2.2.2.2.2.1) fun y0 =>
 some ((y0.1,()))
def f54.S:FnSpec:=⟨⟨[(0,.c (.bptr (.prod (.prod (.int .i64) (.prod (.int .i64) (.prod (.int .i64) (.prod (.int .i64) (.prod (.row (.int .u8)) (.prod (.row tE) (.prod (.row tI) tI))))))) (.prod .bool .bool))))],[]⟩,[⟨[(0,nb)],[]⟩],[],fun x=>f54 x.1⟩
theorem f54.sound:SO 54 f54.S:=so [b f106.sound] n0 [] [] [] 0 (by kernel_rfl) fun _=>by kernel_rfl
def f55(a0 a1 a2 a3 a4 a5 a6 a7 a8:Int)(a9 a10:Bool)(a11:LZ)(a12:LE)(a13:LI):Option (T28) :=
 Option.bind (f108 ((a1,a2,a3,a4,a11,a12,a13,a5,a6,a7,a8),a9,a10)) fun y0 =>
 bif !y0.2.2.1 then
 some ((a1,a2,a3,a4,a5,a6,a7,a8,a9,a10,a11,a13,a12,()))
 else
 Option.bind (f97 a12 a0) fun y1 =>
 bif decide (y1.1≥0) then
 some ((a1,a2,a3,a4,a5,a6,a7,a8,a9,a10,a11,a13,a12,()))
 else
 Option.bind (f109 a11 a12 y0.1 y0.2.1) fun y2 =>
 bif decide (y2.1<0) then
 some ((a1,a2,a3,a4,a5,a6,a7,a8,a9,a10,a11,a13,a12,()))
 else
 Option.bind (f75 1) fun y3 =>
 Option.bind (f101 y3.1 y3.2.1 a0 (Int.tmod y2.1 24) (IntKind.wrap .i64 (Int.tdiv y2.1 24)) y3.2.2.2.2.2.1 y3.2.2.2.2.2.2.1 y3.2.2.2.2.2.2.2.1 y3.2.2.2.2.2.2.2.2.1 y3.2.2.2.2.2.2.2.2.2.1 y3.2.2.2.2.2.2.2.2.2.2.1 a1 a2 a3 a4 a5 a6 a7 a8 a9 a10 a11 a12 a13) fun y4 =>
 some ((y4.1,y4.2.1,y4.2.2.1,y4.2.2.2.1,y4.2.2.2.2.1,y4.2.2.2.2.2.1,y4.2.2.2.2.2.2.1,y4.2.2.2.2.2.2.2.1,y4.2.2.2.2.2.2.2.2.1,y4.2.2.2.2.2.2.2.2.2.1,y4.2.2.2.2.2.2.2.2.2.2.1,y4.2.2.2.2.2.2.2.2.2.2.2.1,y4.2.2.2.2.2.2.2.2.2.2.2.2.1,()))
def f55.S:FnSpec:=⟨⟨[(0,pt 0),(1,n6)],[(0,bx (.own 1) (.own 2) (.own 3)),(1,a8),(2,aE),(3,aI)]⟩,[⟨[],[(0,bx (.own 1) (.own 4) (.own 3)),(1,a8),(3,aI),(4,aE)]⟩],[0,1,3],fun(a,b,c,d,e,f,g,h,i,j,k,l,m,n,_)=>f55 a b c d e f g h i j k l m n⟩
theorem f55.sound:SO 55 f55.S:=so [b f75.sound,b f108.sound,b f97.sound,b f109.sound,b f101.sound] n0 [] [] [] 4 (by kernel_rfl) fun _=>by kernel_rfl
def f213.L1(x:Int×Bool×Int×LI×T3):Option (Bool×Bool×Unit) :=
 it (X:=Int×Bool×Int×LI×T3) (fun rec x =>
 bif decide (x.2.2.2.2.2.1<x.2.2.2.2.1) then
 bif inRange x.2.2.2.2.2.1 (List.length x.2.2.2.1) then
 bif (List.getD x.2.2.2.1 (Int.toNat x.2.2.2.2.2.1) (0,0,0,0)).1 !=0 then
 bif (List.getD x.2.2.2.1 (Int.toNat x.2.2.2.2.2.1) (0,0,0,0)).2.1==2 then
 bif (List.getD x.2.2.2.1 (Int.toNat x.2.2.2.2.2.1) (0,0,0,0)).2.2.1==x.1 then
 bif x.2.1 then
 rec (x.1,Bool.true,IntKind.wrap .i64 (x.2.2.1+1),x.2.2.2.1,x.2.2.2.2.1,IntKind.wrap .i64 (x.2.2.2.2.2.1+1),())
 else
 rec (x.1,(List.getD x.2.2.2.1 (Int.toNat x.2.2.2.2.2.1) (0,0,0,0)).1==1,IntKind.wrap .i64 (x.2.2.1+1),x.2.2.2.1,x.2.2.2.2.1,IntKind.wrap .i64 (x.2.2.2.2.2.1+1),())
 else
 rec (x.1,x.2.1,x.2.2.1,x.2.2.2.1,x.2.2.2.2.1,IntKind.wrap .i64 (x.2.2.2.2.2.1+1),())
 else
 rec (x.1,x.2.1,x.2.2.1,x.2.2.2.1,x.2.2.2.2.1,IntKind.wrap .i64 (x.2.2.2.2.2.1+1),())
 else
 rec (x.1,x.2.1,x.2.2.1,x.2.2.2.1,x.2.2.2.2.1,IntKind.wrap .i64 (x.2.2.2.2.2.1+1),())
 else
 none
 else
 some ((x.2.1,decide (x.2.2.1<4),()))
 ) (100000000000000000000) (x)
def f213(a0 a1 a2 a3:Int)(a4:LZ)(a5:LE)(a6:LI)(a7 a8 a9 a10 a11:Int):Option (Bool×Bool×Unit) :=
 f213.L1 ((a11,Bool.false,0,a6,(↑(List.length a6):Int),0,()))
def f213.S:FnSpec:=⟨⟨[(0,wS),(1,n6)],[]⟩,[⟨[(0,nb),(1,nb)],[]⟩],[],fun(a,b,c,d,e,f,g,h,i,j,k,l,_)=>f213 a b c d e f g h i j k l⟩
theorem f213.sound:SO 213 f213.S:=so [] n0 [] [(4,⟨[(1,n6),(4,nb),(6,n6),(10,rI),(11,n6),(12,n6)],[]⟩)] [] 0 (by kernel_rfl) fun _=>by kernel_rfl
def f131.L1(x:T21):Option (T3) :=
 it (X:=T21) (fun rec x =>
 bif decide (x.2.2.2.1<x.2.2.1) then
 bif small x.1&&small x.2.1 then
 rec (-x.2.1,x.1,x.2.2.1,IntKind.wrap .i64 (x.2.2.2.1+1),())
 else
 none
 else
 some ((x.1,x.2.1,()))
 ) (100000000000000000000) (x)
def f131(a0 a1 a2:Int):Option (T3) :=
 f131.L1 ((a0,a1,Int.tmod (IntKind.wrap .i64 (Int.tmod a2 4+4)) 4,0,()))
def f131.S:FnSpec:=⟨⟨[(0,.c (.cint)),(1,n6)],[]⟩,[⟨[(0,.c (.cint))],[]⟩],[],fun(a,b,c,_)=>f131 a b c⟩
theorem f131.sound:SO 131 f131.S:=so [] n0 [] [(3,⟨[(0,.c (.cint)),(8,n6),(9,n6)],[]⟩)] [] 0 (by kernel_rfl) fun _=>by kernel_rfl
def f130(a0 a1:Int):Option (T3) :=
 bif small a0 then
 bif small a1 then
 some ((a0,a1,()))
 else
 none
 else
 none
def f130.S:FnSpec:=⟨⟨[(0,.c (.cint))],[]⟩,[⟨[(0,n6),(1,n6)],[]⟩],[],fun x=>f130 x.1 x.2.1⟩
theorem f130.sound:SO 130 f130.S:=so [] n0 [] [] [] 0 (by kernel_rfl) fun _=>by kernel_rfl
def f78(a0:Int):Option (T3) :=
 bif decide (a0<1) then
 some ((0,0,()))
 else
 bif decide (a0>4) then
 some ((0,0,()))
 else
 Option.bind (f131 0 (-1) (IntKind.wrap .i64 (a0-1))) fun y0 =>
 Option.bind (f130 y0.1 y0.2.1) fun y1 =>
 some ((y1.1,y1.2.1,()))
def f78.S:FnSpec:=⟨⟨[(0,n6)],[]⟩,[⟨[(0,n6),(1,n6)],[]⟩],[],fun x=>f78 x.1⟩
theorem f78.sound:SO 78 f78.S:=so [b f131.sound,b f130.sound] n0 [] [] [] 0 (by kernel_rfl) fun _=>by kernel_rfl
def f214(a0 a1 a2 a3 a4 a5 a6 a7 a8 a9 a10 a11:Int):Option (T3) :=
 Option.bind (f78 a11) fun y0 =>
 bif small a3 then
 bif small a4 then
 bif small y0.1 then
 bif small y0.2.1 then
 bif small (a3+y0.1)&&small (a4+y0.2.1) then
 bif small (a3+y0.1) then
 bif small (a4+y0.2.1) then
 some ((a3+y0.1,a4+y0.2.1,()))
 else
 none
 else
 none
 else
 none
 else
 none
 else
 none
 else
 none
 else
 none
def f214.S:FnSpec:=⟨⟨[(0,eS),(1,n6)],[]⟩,[⟨[(0,n6),(1,n6)],[]⟩],[],fun(a,b,c,d,e,f,g,h,i,j,k,l,_)=>f214 a b c d e f g h i j k l⟩
theorem f214.sound:SO 214 f214.S:=so [b f78.sound] n0 [] [] [] 0 (by kernel_rfl) fun _=>by kernel_rfl
def f215.L1(x:Int×Int×Bool×LI×T3):Option (Bool×Unit) :=
 it (X:=Int×Int×Bool×LI×T3) (fun rec x =>
 bif decide (x.2.2.2.2.2.1<x.2.2.2.2.1) then
 bif inRange x.2.2.2.2.2.1 (List.length x.2.2.2.1) then
 bif (List.getD x.2.2.2.1 (Int.toNat x.2.2.2.2.2.1) (0,0,0,0)).1 !=0 then
 bif (List.getD x.2.2.2.1 (Int.toNat x.2.2.2.2.2.1) (0,0,0,0)).2.1==1 then
 bif (List.getD x.2.2.2.1 (Int.toNat x.2.2.2.2.2.1) (0,0,0,0)).2.2.1==x.1 then
 bif (List.getD x.2.2.2.1 (Int.toNat x.2.2.2.2.2.1) (0,0,0,0)).2.2.2==x.2.1 then
 bif x.2.2.1 then
 some ((Bool.true,()))
 else
 some (((List.getD x.2.2.2.1 (Int.toNat x.2.2.2.2.2.1) (0,0,0,0)).1==4,()))
 else
 rec (x.1,x.2.1,x.2.2.1,x.2.2.2.1,x.2.2.2.2.1,IntKind.wrap .i64 (x.2.2.2.2.2.1+1),())
 else
 rec (x.1,x.2.1,x.2.2.1,x.2.2.2.1,x.2.2.2.2.1,IntKind.wrap .i64 (x.2.2.2.2.2.1+1),())
 else
 rec (x.1,x.2.1,x.2.2.1,x.2.2.2.1,x.2.2.2.2.1,IntKind.wrap .i64 (x.2.2.2.2.2.1+1),())
 else
 rec (x.1,x.2.1,x.2.2.1,x.2.2.2.1,x.2.2.2.2.1,IntKind.wrap .i64 (x.2.2.2.2.2.1+1),())
 else
 none
 else
 some ((Bool.false,()))
 ) (100000000000000000000) (x)
def f215(a0 a1 a2 a3:Int)(a4:LZ)(a5:LE)(a6:LI)(a7 a8 a9 a10 a11 a12:Int)(a13:Bool):Option (Bool×Unit) :=
 f215.L1 ((a11,a12,a13,a6,(↑(List.length a6):Int),0,()))
def f215.S:FnSpec:=⟨⟨[(0,wS),(1,n6),(2,n6),(3,nb)],[]⟩,[⟨[(0,nb)],[]⟩],[],fun(a,b,c,d,e,f,g,h,i,j,k,l,m,n,_)=>f215 a b c d e f g h i j k l m n⟩
theorem f215.sound:SO 215 f215.S:=so [] n0 [] [(3,⟨[(1,n6),(2,n6),(3,nb),(12,rI),(13,n6),(14,n6)],[]⟩)] [] 0 (by kernel_rfl) fun _=>by kernel_rfl
def f95(a0:LZ)(a1 a2:Int):Option (Int×Unit) :=
 Option.bind (f77 a1 a2) fun y0 =>
 Option.bind (f41 a0 y0.1) fun y1 =>
 some ((y1.1,()))
def f95.S:FnSpec:=⟨⟨[(0,r8),(1,n6),(2,n6)],[]⟩,[⟨[(0,n6)],[]⟩],[],fun(a,b,c,_)=>f95 a b c⟩
theorem f95.sound:SO 95 f95.S:=so [b f41.sound,b f77.sound] n0 [] [] [] 0 (by kernel_rfl) fun _=>by kernel_rfl
def f45(a0 a1 a2:Int):Option (T3) :=
 Option.bind (f78 a2) fun y0 =>
 bif small y0.1 then
 bif small y0.2.1 then
 bif small (a0+y0.1)&&small (a1+y0.2.1) then
 some ((a0+y0.1,a1+y0.2.1,()))
 else
 none
 else
 none
 else
 none
def f45.S:FnSpec:=⟨⟨[(0,.c (.cint)),(1,n6)],[]⟩,[⟨[(0,.c (.cint))],[]⟩],[],fun(a,b,c,_)=>f45 a b c⟩
theorem f45.sound:SO 45 f45.S:=so [b f78.sound] n0 [] [] [] 0 (by kernel_rfl) fun _=>by kernel_rfl
def f44(a0 a1:Int):Option (T3) :=
 bif small a0 then
 bif small a1 then
 some ((a0,a1,()))
 else
 none
 else
 none
def f44.S:FnSpec:=⟨⟨[(0,.c (.cint))],[]⟩,[⟨[(0,n6),(1,n6)],[]⟩],[],fun x=>f44 x.1 x.2.1⟩
theorem f44.sound:SO 44 f44.S:=so [] n0 [] [] [] 0 (by kernel_rfl) fun _=>by kernel_rfl
def f16.L1(x:Int×Int×Int×Int×List Bool×LZ×Unit):Option (Int×Unit) :=
 it (X:=Int×Int×Int×Int×List Bool×LZ×Unit) (fun rec x =>
 bif decide (x.2.2.2.1≤4) then
 bif small x.1 then
 bif small x.2.1 then
 Option.bind (f45 x.1 x.2.1 x.2.2.2.1) fun y0 =>
 Option.bind (f44 y0.1 y0.2.1) fun y1 =>
 Option.bind (f43 y1.1 y1.2.1) fun y2 =>
 bif decide (y2.1≥0) then
 bif inRange y2.1 (List.length x.2.2.2.2.2.1) then
 bif inRange x.2.2.1 (List.length x.2.2.2.2.2.1) then
 bif List.getD x.2.2.2.2.2.1 (Int.toNat y2.1) 0==IntKind.wrap .i64 (List.getD x.2.2.2.2.2.1 (Int.toNat x.2.2.1) 0-1) then
 bif inRange y2.1 (List.length x.2.2.2.2.1) then
 bif !List.getD x.2.2.2.2.1 (Int.toNat y2.1) Bool.false then
 some ((x.2.2.2.1,()))
 else
 rec (x.1,x.2.1,x.2.2.1,IntKind.wrap .i64 (x.2.2.2.1+1),x.2.2.2.2.1,x.2.2.2.2.2.1,())
 else
 none
 else
 rec (x.1,x.2.1,x.2.2.1,IntKind.wrap .i64 (x.2.2.2.1+1),x.2.2.2.2.1,x.2.2.2.2.2.1,())
 else
 none
 else
 none
 else
 rec (x.1,x.2.1,x.2.2.1,IntKind.wrap .i64 (x.2.2.2.1+1),x.2.2.2.2.1,x.2.2.2.2.2.1,())
 else
 none
 else
 none
 else
 some ((0,()))
 ) (100000000000000000000) (x)
def f16.L2(x:LZ×Int×Int×LZ×Int×LE×T47):Option (Int×Unit) :=
 it (X:=LZ×Int×Int×LZ×Int×LE×T47) (fun rec x=>match x with
 | (v0,v1,v2,v3,v4,v5,v6,v7,v8,_) =>
 bif decide (v7<v6) then
 bif inRange v7 (List.length v5) then
 Option.bind (f43 (List.getD v5 (Int.toNat v7) zE).2.2.2.1 (List.getD v5 (Int.toNat v7) zE).2.2.2.2.1) fun y0 =>
 bif (List.getD v5 (Int.toNat v7) zE).1 !=0 then
 bif decide (y0.1≥0) then
 bif y0.1 !=v4 then
 bif inRange y0.1 (List.length v8) then
 rec (v0,v1,v2,v3,v4,v5,v6,IntKind.wrap .i64 (v7+1),List.set v8 (Int.toNat y0.1) Bool.true,())
 else
 none
 else
 rec (v0,v1,v2,v3,v4,v5,v6,IntKind.wrap .i64 (v7+1),v8,())
 else
 rec (v0,v1,v2,v3,v4,v5,v6,IntKind.wrap .i64 (v7+1),v8,())
 else
 rec (v0,v1,v2,v3,v4,v5,v6,IntKind.wrap .i64 (v7+1),v8,())
 else
 none
 else
 Option.bind (f14 v0 v8 v3) fun y1 =>
 bif inRange v4 (List.length y1.1) then
 bif decide (List.getD y1.1 (Int.toNat v4) 0<1) then
 some ((0,()))
 else
 f16.L1 ((v1,v2,v4,1,v8,y1.1,()))
 else
 none
 ) (100000000000000000000) (x)
def f16(a0:LZ)(a1:LE)(a2 a3:Int)(a4:LZ):Option (Int×Unit) :=
 Option.bind (f43 a2 a3) fun y0 =>
 bif decide (y0.1<0) then
 some ((0,()))
 else
 bif decide ((0:Int)≤0∧0≤minI (↑(List.length a1):Int) 32∧minI (↑(List.length a1):Int) 32≤(↑(List.length a1):Int)) then
 f16.L2 ((a0,a2,a3,a4,y0.1,List.drop 0 (List.take (Int.toNat (minI (↑(List.length a1):Int) 32)) a1),(↑(List.length (List.drop 0 (List.take (Int.toNat (minI (↑(List.length a1):Int) 32)) a1))):Int),0,List.replicate 384 Bool.false,()))
 else
 none
def f16.S:FnSpec:=⟨⟨[(0,r8),(1,rE),(2,n6),(3,n6),(4,.c (.row (.int .i64)))],[]⟩,[⟨[(0,n6)],[]⟩],[],fun(a,b,c,d,e,_)=>f16 a b c d e⟩
theorem f16.sound:SO 16 f16.S:=so [b f14.sound,b f43.sound,b f45.sound,b f44.sound] n0 [] [(7,⟨[(0,r8),(2,n6),(3,n6),(4,.c (.row (.int .i64))),(11,n6),(12,ow 0),(29,rE),(30,n6),(31,n6)],[(0,.arr .bool)]⟩),(17,⟨[(2,n6),(3,n6),(11,n6),(12,ow 0),(16,ow 1),(17,n6)],[(0,.arr .bool),(1,.arr (.int .i64))]⟩)] [] 0 (by kernel_rfl) fun _=>by kernel_rfl
end
end Go.Proofs.YthdgahpomhnidaaGreat.Run
namespace Go.Proofs.YthdgahpomhnidaaGreat.Run
open Go Mx
set_option maxRecDepth 100000
set_option maxHeartbeats 4000000
def tabB0:ByteArray:=ByteArray.mk (List.toArray (List.append (List.append [0,1,2,2,3,3,3,3,4,4,4,4,4,4,4,4,5,5,5,5,5,5,5,5,5,5,5,5,5,5,5,5,6,6,6,6,6,6,6,6,6,6,6,6,6,6,6,6,6,6,6,6,6,6,6,6,6,6,6,6,6,6,6,6] [7,7,7,7,7,7,7,7,7,7,7,7,7,7,7,7,7,7,7,7,7,7,7,7,7,7,7,7,7,7,7,7,7,7,7,7,7,7,7,7,7,7,7,7,7,7,7,7,7,7,7,7,7,7,7,7,7,7,7,7,7,7,7,7]) (List.append [8,8,8,8,8,8,8,8,8,8,8,8,8,8,8,8,8,8,8,8,8,8,8,8,8,8,8,8,8,8,8,8,8,8,8,8,8,8,8,8,8,8,8,8,8,8,8,8,8,8,8,8,8,8,8,8,8,8,8,8,8,8,8,8] [8,8,8,8,8,8,8,8,8,8,8,8,8,8,8,8,8,8,8,8,8,8,8,8,8,8,8,8,8,8,8,8,8,8,8,8,8,8,8,8,8,8,8,8,8,8,8,8,8,8,8,8,8,8,8,8,8,8,8,8,8,8,8,8])))
noncomputable section
def f212.L1(x:Bool×Int×T10):Option (Int×Unit) :=
 it (X:=Bool×Int×T10) (fun rec x=>match x with
 | (v0,v1,v2,v3,v4,v5,v6,v7,v8,v9,v10,v11,v12,v13,v14,v15,v16,v17,v18,v19,v20,v21,v22,v23,_) =>
 bif decide (v1≤4) then
 Option.bind (f214 v13 v14 v15 v16 v17 v18 v19 v20 v21 v22 v23 v1) fun y0 =>
 Option.bind (f96 v7 y0.1 y0.2.1) fun y1 =>
 bif decide (y1.1≥0) then
 bif inRange y1.1 (List.length v7) then
 bif (List.getD v7 (Int.toNat y1.1) zE).1 !=1 then
 some ((v1,()))
 else
 rec (v0,IntKind.wrap .i64 (v1+1),v2,v3,v4,v5,v6,v7,v8,v9,v10,v11,v12,v13,v14,v15,v16,v17,v18,v19,v20,v21,v22,v23,())
 else
 none
 else
 rec (v0,IntKind.wrap .i64 (v1+1),v2,v3,v4,v5,v6,v7,v8,v9,v10,v11,v12,v13,v14,v15,v16,v17,v18,v19,v20,v21,v22,v23,())
 else
 Option.bind (f215 v2 v3 v4 v5 v6 v7 v8 v9 v10 v11 v12 v16 v17 v0) fun y2 =>
 bif y2.1 then
 some ((5,()))
 else
 Option.bind (f95 v6 v16 v17) fun y3 =>
 bif y3.1==4 then
 some ((9,()))
 else
 Option.bind (f13 v6 4) fun y4 =>
 Option.bind (f16 v6 v7 v16 v17 [y4.1]) fun y5 =>
 some ((y5.1,()))
 ) (100000000000000000000) (x)
def f212(a0 a1 a2 a3 a4:Int)(a5:LZ)(a6:LE)(a7:LI)(a8 a9 a10 a11:Int):Option (Int×Unit) :=
 Option.bind (f97 a6 a0) fun y0 =>
 bif decide (y0.1<0) then
 some ((0,()))
 else
 bif inRange y0.1 (List.length a6) then
 Option.bind (f213 a1 a2 a3 a4 a5 a6 a7 a8 a9 a10 a11 a0) fun y1 =>
 Option.bind (α:=Bool×T10⊕Int×Unit) (
 bif y1.1 then
 bif decide ((List.getD a6 (Int.toNat y0.1) zE).2.2.2.2.2.1≤IntKind.wrap .i64 (Int.tdiv (List.getD a6 (Int.toNat y0.1) zE).2.2.2.2.2.2.1 3)) then
 some (Sum.inr (6,()))
 else
 some (Sum.inl (y1.2.1,a1,a2,a3,a4,a5,a6,a7,a8,a9,a10,a11,(List.getD a6 (Int.toNat y0.1) zE).1,(List.getD a6 (Int.toNat y0.1) zE).2.1,(List.getD a6 (Int.toNat y0.1) zE).2.2.1,(List.getD a6 (Int.toNat y0.1) zE).2.2.2.1,(List.getD a6 (Int.toNat y0.1) zE).2.2.2.2.1,(List.getD a6 (Int.toNat y0.1) zE).2.2.2.2.2.1,(List.getD a6 (Int.toNat y0.1) zE).2.2.2.2.2.2.1,(List.getD a6 (Int.toNat y0.1) zE).2.2.2.2.2.2.2.1,(List.getD a6 (Int.toNat y0.1) zE).2.2.2.2.2.2.2.2.1,(List.getD a6 (Int.toNat y0.1) zE).2.2.2.2.2.2.2.2.2.1,(List.getD a6 (Int.toNat y0.1) zE).2.2.2.2.2.2.2.2.2.2,()))
 else
 some (Sum.inl (y1.2.1,a1,a2,a3,a4,a5,a6,a7,a8,a9,a10,a11,(List.getD a6 (Int.toNat y0.1) zE).1,(List.getD a6 (Int.toNat y0.1) zE).2.1,(List.getD a6 (Int.toNat y0.1) zE).2.2.1,(List.getD a6 (Int.toNat y0.1) zE).2.2.2.1,(List.getD a6 (Int.toNat y0.1) zE).2.2.2.2.1,(List.getD a6 (Int.toNat y0.1) zE).2.2.2.2.2.1,(List.getD a6 (Int.toNat y0.1) zE).2.2.2.2.2.2.1,(List.getD a6 (Int.toNat y0.1) zE).2.2.2.2.2.2.2.1,(List.getD a6 (Int.toNat y0.1) zE).2.2.2.2.2.2.2.2.1,(List.getD a6 (Int.toNat y0.1) zE).2.2.2.2.2.2.2.2.2.1,(List.getD a6 (Int.toNat y0.1) zE).2.2.2.2.2.2.2.2.2.2,()))
 ) fun y2 =>
 Sum.elim (fun y3=>match y3 with
 | (u3_0,u3_1,u3_2,u3_3,u3_4,u3_5,u3_6,u3_7,u3_8,u3_9,u3_10,u3_11,u3_12,u3_13,u3_14,u3_15,u3_16,u3_17,u3_18,u3_19,u3_20,u3_21,u3_22,_) =>
 f212.L1 ((u3_0,1,u3_1,u3_2,u3_3,u3_4,u3_5,u3_6,u3_7,u3_8,u3_9,u3_10,u3_11,u3_12,u3_13,u3_14,u3_15,u3_16,u3_17,u3_18,u3_19,u3_20,u3_21,u3_22,()))
 ) (fun z4 =>
 some (z4)
 ) (y2)
 else
 none
def f212.S:FnSpec:=⟨⟨[(0,.agg [i6]),(1,wS)],[]⟩,[⟨[(0,n6)],[]⟩],[],fun(a,b,c,d,e,f,g,h,i,j,k,l,_)=>f212 a b c d e f g h i j k l⟩
theorem f212.sound:SO 212 f212.S:=so [b f13.sound,b f97.sound,b f96.sound,b f213.sound,b f214.sound,b f215.sound,b f95.sound,b f16.sound] n0 [(9,⟨[(3,pt 0),(6,pt 1),(8,nb)],[(0,bw q8 qE qI),(1,bz)]⟩)] [(10,⟨[(3,pt 0),(6,pt 1),(8,nb),(9,n6)],[(0,bw q8 qE qI),(1,bz)]⟩)] [] 0 (by kernel_rfl) fun _=>by kernel_rfl
def f22(a0 a1 a2 a3:Int)(a4:LZ)(a5:LE)(a6:LI)(a7 a8 a9 a10 a11:Int):Option (Int×Unit):=f212 a11 a0 a1 a2 a3 a4 a5 a6 a7 a8 a9 a10
def f22.S:FnSpec:=⟨mindIns,wantOuts,[],fun x=>f22 x.1 x.2.1 x.2.2.1 x.2.2.2.1 x.2.2.2.2.1 x.2.2.2.2.2.1 x.2.2.2.2.2.2.1 x.2.2.2.2.2.2.2.1 x.2.2.2.2.2.2.2.2.1 x.2.2.2.2.2.2.2.2.2.1 x.2.2.2.2.2.2.2.2.2.2.1 x.2.2.2.2.2.2.2.2.2.2.2.1⟩
def f22.E:Env:=⟨tis,[],[],[],[],[],0,[],1⟩
theorem f22.ask : AskParts f22.E ((Go.Proofs.Tryz.f61.body).getD .skip) "adit/minds.wants" 43 := by constructor <;> first | kernel_rfl | (unfold IsOp; kernel_rfl) | (intros; kernel_rfl)
theorem f22.parts:MindParts f22.E ((Go.Proofs.Tryz.f22.body).getD .skip) 104 61 43 158:=by constructor<;>first | kernel_rfl | (unfold IsOp;kernel_rfl) | (intros;kernel_rfl)
theorem f22.sound : Sound Go.Proofs.Tryz.prog 22 f22.S := mind_sound (fn := Go.Proofs.Tryz.f22) (E := f22.E) (c := ((Go.Proofs.Tryz.f22.body).getD .skip)) (tS := 104) (fa := 61) (tW := 43) (tF := 158) (by kernel_rfl) (by kernel_rfl) (by kernel_rfl) (by kernel_rfl) (by kernel_rfl) f22.parts ⟨tis_ok, EqsOk.nil _, FnsOk.nil⟩ rfl (by intros; kernel_rfl) (F := (fun n x => f212 n x.1 x.2.1 x.2.2.1 x.2.2.2.1 x.2.2.2.2.1 x.2.2.2.2.2.1 x.2.2.2.2.2.2.1 x.2.2.2.2.2.2.2.1 x.2.2.2.2.2.2.2.2.1 x.2.2.2.2.2.2.2.2.2.1 x.2.2.2.2.2.2.2.2.2.2.1)) (fun h _ _ _ hV hro => ask_tells (fn := Go.Proofs.Tryz.f61) (E := f22.E) (c := ((Go.Proofs.Tryz.f61.body).getD .skip)) (name := "adit/minds.wants") (tW := 43) (tS := 104) (fw := 212) (by kernel_rfl) (by kernel_rfl) (by kernel_rfl) (by kernel_rfl) (by kernel_rfl) f22.ask ⟨tis_ok, EqsOk.nil _, FnsOk.nil⟩ rfl (by intros; kernel_rfl) (F := (fun n x => f212 n x.1 x.2.1 x.2.2.1 x.2.2.2.1 x.2.2.2.2.1 x.2.2.2.2.2.1 x.2.2.2.2.2.2.1 x.2.2.2.2.2.2.2.1 x.2.2.2.2.2.2.2.2.1 x.2.2.2.2.2.2.2.2.2.1 x.2.2.2.2.2.2.2.2.2.2.1)) f212.sound h hV hro)
def f114(a0 a1 a2 a3:Int)(a4:LZ)(a5:LE)(a6:LI)(a7 a8 a9 a10 a11:Int):Option (Bool×Unit) :=
 bif decide (a11≥0) then
 bif decide (a11<(↑(List.length a5):Int)) then
 bif decide (a11<32) then
 bif inRange a11 (List.length a5) then
 some (((List.getD a5 (Int.toNat a11) zE).1 !=0,()))
 else
 none
 else
 some ((Bool.false,()))
 else
 some ((Bool.false,()))
 else
 some ((Bool.false,()))
def f114.S:FnSpec:=⟨⟨[(0,wS),(1,n6)],[]⟩,[⟨[(0,nb)],[]⟩],[],fun(a,b,c,d,e,f,g,h,i,j,k,l,_)=>f114 a b c d e f g h i j k l⟩
theorem f114.sound:SO 114 f114.S:=so [] n0 [] [] [] 0 (by kernel_rfl) fun _=>by kernel_rfl
def f113(a0 a1 a2 a3:Int)(a4:LZ)(a5:LE)(a6:LI)(a7 a8 a9 a10:Int):Option (T0) :=
 Option.bind (f103 a4) fun y0 =>
 Option.bind (f104 a5) fun y1 =>
 Option.bind (f105 a6) fun y2 =>
 some ((a0,a1,a2,a3,a7,a8,a9,a10,y0.1,y1.1,y2.1,()))
def f113.S:FnSpec:=⟨⟨[(0,wS)],[]⟩,[⟨[(0,aw (.own 0) (.own 1) (.own 2))],[(0,a8),(1,aE),(2,aI)]⟩],[],fun(a,b,c,d,e,f,g,h,i,j,k,_)=>f113 a b c d e f g h i j k⟩
theorem f113.sound:SO 113 f113.S:=so [b f104.sound,b f105.sound,b f103.sound] n0 [] [] [] 0 (by kernel_rfl) fun _=>by kernel_rfl
def f190(a0 a1 a2 a3 a4 a5 a6:Int):Option (Bool×Unit) :=
 bif a0 !=0 then
 bif a1==a4 then
 bif a2==a5 then
 some ((a3==a6,()))
 else
 some ((Bool.false,()))
 else
 some ((Bool.false,()))
 else
 some ((Bool.false,()))
def f190.S:FnSpec:=⟨⟨[(0,.agg [i6,i6,i6,i6]),(1,.c (.bptr (.int .i64))),(2,.c (.bptr (.int .i64))),(3,.c (.bptr (.int .i64)))],[]⟩,[⟨[(0,nb)],[]⟩],[],fun(a,b,c,d,e,f,g,_)=>f190 a b c d e f g⟩
theorem f190.sound:SO 190 f190.S:=so [] n0 [] [] [] 0 (by kernel_rfl) fun _=>by kernel_rfl
def f189.L1(x:LI×Int×T21):Option (T21) :=
 it (X:=LI×Int×T21) (fun rec x =>
 bif decide (x.2.2.1<x.2.1) then
 bif inRange x.2.2.1 (List.length x.1) then
 Option.bind (f190 (List.getD x.1 (Int.toNat x.2.2.1) (0,0,0,0)).1 (List.getD x.1 (Int.toNat x.2.2.1) (0,0,0,0)).2.1 (List.getD x.1 (Int.toNat x.2.2.1) (0,0,0,0)).2.2.1 (List.getD x.1 (Int.toNat x.2.2.1) (0,0,0,0)).2.2.2 x.2.2.2.1 x.2.2.2.2.1 x.2.2.2.2.2.1) fun y0 =>
 bif y0.1 then
 some ((x.2.2.1,x.2.2.2.1,x.2.2.2.2.1,x.2.2.2.2.2.1,()))
 else
 rec (x.1,x.2.1,IntKind.wrap .i64 (x.2.2.1+1),x.2.2.2.1,x.2.2.2.2.1,x.2.2.2.2.2.1,())
 else
 none
 else
 some ((-1,x.2.2.2.1,x.2.2.2.2.1,x.2.2.2.2.2.1,()))
 ) (100000000000000000000) (x)
def f189(a0:LI)(a1 a2 a3:Int):Option (T21) :=
 f189.L1 ((a0,(↑(List.length a0):Int),0,a1,a2,a3,()))
def f189.S:FnSpec:=⟨⟨[(0,rI),(1,.c (.fn 190 [0,1,2]))],[(0,.box [i6]),(1,.box [i6]),(2,.box [i6])]⟩,[⟨[(0,n6)],[(0,.box [i6]),(1,.box [i6]),(2,.box [i6])]⟩],[0,1,2],fun(a,b,c,d,_)=>f189 a b c d⟩
theorem f189.sound:SO 189 f189.S:=so [b f190.sound] n0 [] [(3,⟨[(0,rI),(1,.c (.fn 190 [0,1,2])),(7,n6),(8,n6)],[(0,.box [i6]),(1,.box [i6]),(2,.box [i6])]⟩)] [] 3 (by kernel_rfl) fun _=>by kernel_rfl
def f180(a0 a1 a2 a3:Int)(a4:LZ)(a5:LE)(a6:LI)(a7 a8 a9 a10 a11 a12 a13:Int):Option (Int×Unit) :=
 Option.bind (f189 a6 a11 a12 a13) fun y0 =>
 some ((y0.1,()))
def f180.S:FnSpec:=⟨⟨[(0,wS),(1,n6),(2,n6),(3,n6)],[]⟩,[⟨[(0,n6)],[]⟩],[],fun(a,b,c,d,e,f,g,h,i,j,k,l,m,n,_)=>f180 a b c d e f g h i j k l m n⟩
theorem f180.sound:SO 180 f180.S:=so [b f189.sound] n0 [] [] [] 0 (by kernel_rfl) fun _=>by kernel_rfl
def f192(a0 a1 a2 a3:Int)(a4:LZ)(a5:LE)(a6:LI)(a7 a8 a9 a10 a11:Int):Option (T3) :=
 Option.bind (α:=Int×T51⊕T3) (
 Option.bind (f180 a0 a1 a2 a3 a4 a5 a6 a7 a8 a9 a10 3 a11 0) fun y7 =>
 bif decide (y7.1≥0) then
 some (Sum.inl (a11,3,0,a0,a1,a2,a3,a4,a5,a6,a7,a8,a9,a10,()))
 else
 some (Sum.inl (a11,0,0,a0,a1,a2,a3,a4,a5,a6,a7,a8,a9,a10,()))
 ) fun y0 =>
 Sum.elim (fun y1=>match y1 with
 | (u1_0,u1_1,u1_2,u1_3,u1_4,u1_5,u1_6,u1_7,u1_8,u1_9,u1_10,u1_11,u1_12,u1_13,_) =>
 Option.bind (α:=T3⊕T3) (
 Option.bind (f180 u1_3 u1_4 u1_5 u1_6 u1_7 u1_8 u1_9 u1_10 u1_11 u1_12 u1_13 3 u1_0 1) fun y6 =>
 bif decide (y6.1≥0) then
 some (Sum.inl (u1_1,2,()))
 else
 some (Sum.inl (u1_1,u1_2,()))
 ) fun y3 =>
 Sum.elim (fun y4 =>
 some ((y4.1,y4.2.1,()))
 ) (fun z5 =>
 some (z5)
 ) (y3)
 ) (fun z2 =>
 some (z2)
 ) (y0)
def f192.S:FnSpec:=⟨⟨[(0,wS),(1,n6)],[]⟩,[⟨[(0,n6),(1,n6)],[]⟩],[],fun(a,b,c,d,e,f,g,h,i,j,k,l,_)=>f192 a b c d e f g h i j k l⟩
theorem f192.sound:SO 192 f192.S:=so [b f180.sound] n0 [(5,⟨[(1,n6),(2,pt 0),(6,n6),(7,n6)],[(0,bw q8 qE qI)]⟩),(7,⟨[(6,n6),(7,n6)],[]⟩)] [] [] 0 (by kernel_rfl) fun _=>by kernel_rfl
def f182(a0 a1 a2 a3:Int)(a4:LZ)(a5:LE)(a6:LI)(a7 a8 a9 a10 a11:Int):Option (T3) :=
 bif inRange a11 (List.length a5) then
 Option.bind (α:=Int×Int×T1⊕T3) (
 bif (List.getD a5 (Int.toNat a11) zE).1==1 then
 Option.bind (f192 a0 a1 a2 a3 a4 a5 a6 a7 a8 a9 a10 (List.getD a5 (Int.toNat a11) zE).2.2.1) fun y3 =>
 some (Sum.inl (y3.1,y3.2.1,(List.getD a5 (Int.toNat a11) zE).1,(List.getD a5 (Int.toNat a11) zE).2.1,(List.getD a5 (Int.toNat a11) zE).2.2.1,(List.getD a5 (Int.toNat a11) zE).2.2.2.1,(List.getD a5 (Int.toNat a11) zE).2.2.2.2.1,(List.getD a5 (Int.toNat a11) zE).2.2.2.2.2.1,(List.getD a5 (Int.toNat a11) zE).2.2.2.2.2.2.1,(List.getD a5 (Int.toNat a11) zE).2.2.2.2.2.2.2.1,(List.getD a5 (Int.toNat a11) zE).2.2.2.2.2.2.2.2.1,(List.getD a5 (Int.toNat a11) zE).2.2.2.2.2.2.2.2.2.1,(List.getD a5 (Int.toNat a11) zE).2.2.2.2.2.2.2.2.2.2,()))
 else
 some (Sum.inl (0,0,(List.getD a5 (Int.toNat a11) zE).1,(List.getD a5 (Int.toNat a11) zE).2.1,(List.getD a5 (Int.toNat a11) zE).2.2.1,(List.getD a5 (Int.toNat a11) zE).2.2.2.1,(List.getD a5 (Int.toNat a11) zE).2.2.2.2.1,(List.getD a5 (Int.toNat a11) zE).2.2.2.2.2.1,(List.getD a5 (Int.toNat a11) zE).2.2.2.2.2.2.1,(List.getD a5 (Int.toNat a11) zE).2.2.2.2.2.2.2.1,(List.getD a5 (Int.toNat a11) zE).2.2.2.2.2.2.2.2.1,(List.getD a5 (Int.toNat a11) zE).2.2.2.2.2.2.2.2.2.1,(List.getD a5 (Int.toNat a11) zE).2.2.2.2.2.2.2.2.2.2,()))
 ) fun y0 =>
 Sum.elim (fun y1 =>
 some ((IntKind.wrap .i64 (y1.2.2.2.2.2.2.2.2.2.1+y1.1),IntKind.wrap .i64 (y1.2.2.2.2.2.2.2.2.2.2.1+y1.2.1),()))
 ) (fun z2 =>
 some (z2)
 ) (y0)
 else
 none
def f182.S:FnSpec:=⟨⟨[(0,wS),(1,n6)],[]⟩,[⟨[(0,n6),(1,n6)],[]⟩],[],fun(a,b,c,d,e,f,g,h,i,j,k,l,_)=>f182 a b c d e f g h i j k l⟩
theorem f182.sound:SO 182 f182.S:=so [b f192.sound] n0 [(6,⟨[(6,pt 0),(7,n6),(8,n6)],[(0,bz)]⟩)] [] [] 0 (by kernel_rfl) fun _=>by kernel_rfl
def f116(a0:LE)(a1:Int):Option (LE×Unit) :=
 Option.bind (f104 a0) fun y0 =>
 Option.bind (α:=LE×Unit⊕LE×Unit) (
 bif decide (a1≥0) then
 Option.bind (f162 a0) fun y4 =>
 bif decide (a1<(↑(List.length y4.1):Int)) then
 bif inRange a1 (List.length a0) then
 bif inRange a1 (List.length y0.1) then
 let s0:LE:=List.set y0.1 (Int.toNat a1) (0,(List.getD a0 (Int.toNat a1) zE).2.1,0,0,0,0,0,0,0,0,0)
 some (Sum.inl (s0,()))
 else
 none
 else
 none
 else
 some (Sum.inl (y0.1,()))
 else
 some (Sum.inl (y0.1,()))
 ) fun y1 =>
 Sum.elim (fun y2 =>
 some ((y2.1,()))
 ) (fun z3 =>
 some (z3)
 ) (y1)
def f116.S:FnSpec:=⟨⟨[(0,rE),(1,n6)],[]⟩,[⟨[(0,ow 0)],[(0,aE)]⟩],[],fun x=>f116 x.1 x.2.1⟩
theorem f116.sound:SO 116 f116.S:=so [b f162.sound,b f104.sound] n0 [(5,⟨[(5,ow 0)],[(0,aE)]⟩)] [] [] 0 (by kernel_rfl) fun _=>by kernel_rfl
def f176(a0 a1 a2 a3:Int)(a4:LZ)(a5:LE)(a6:LI)(a7 a8 a9 a10:Int):Option (T0) :=
 Option.bind (f103 a4) fun y0 =>
 Option.bind (f104 a5) fun y1 =>
 Option.bind (f105 a6) fun y2 =>
 some ((a0,a1,a2,a3,a7,a8,a9,a10,y0.1,y1.1,y2.1,()))
def f176.S:FnSpec:=⟨⟨[(0,wS)],[]⟩,[⟨[(0,aw (.own 0) (.own 1) (.own 2))],[(0,a8),(1,aE),(2,aI)]⟩],[],fun(a,b,c,d,e,f,g,h,i,j,k,_)=>f176 a b c d e f g h i j k⟩
theorem f176.sound:SO 176 f176.S:=so [b f104.sound,b f105.sound,b f103.sound] n0 [] [] [] 0 (by kernel_rfl) fun _=>by kernel_rfl
def f161.L1(x:Int×Int×Int×T8):Option (T0) :=
 it (X:=Int×Int×Int×T8) (fun rec x=>match x with
 | (v0,v1,v2,v3,v4,v5,v6,v7,v8,v9,v10,v11,v12,v13,v14,v15,v16,v17,v18,v19,v20,v21,_) =>
 bif decide (v2<v1) then
 bif inRange v2 (List.length v19) then
 bif (List.getD v19 (Int.toNat v2) (0,0,0,0)).2.1==2 then
 bif (List.getD v19 (Int.toNat v2) (0,0,0,0)).2.2.1==v0 then
 bif inRange v2 (List.length v19) then
 rec (v0,v1,IntKind.wrap .i64 (v2+1),v3,v4,v5,v6,v7,v8,v9,v10,v11,v12,v13,v14,v15,v16,v17,v18,List.set v19 (Int.toNat v2) (0,0,0,0),v20,v21,())
 else
 none
 else
 rec (v0,v1,IntKind.wrap .i64 (v2+1),v3,v4,v5,v6,v7,v8,v9,v10,v11,v12,v13,v14,v15,v16,v17,v18,v19,v20,v21,())
 else
 bif (List.getD v19 (Int.toNat v2) (0,0,0,0)).2.1==3 then
 bif (List.getD v19 (Int.toNat v2) (0,0,0,0)).2.2.1==v0 then
 bif inRange v2 (List.length v19) then
 rec (v0,v1,IntKind.wrap .i64 (v2+1),v3,v4,v5,v6,v7,v8,v9,v10,v11,v12,v13,v14,v15,v16,v17,v18,List.set v19 (Int.toNat v2) (0,0,0,0),v20,v21,())
 else
 none
 else
 rec (v0,v1,IntKind.wrap .i64 (v2+1),v3,v4,v5,v6,v7,v8,v9,v10,v11,v12,v13,v14,v15,v16,v17,v18,v19,v20,v21,())
 else
 rec (v0,v1,IntKind.wrap .i64 (v2+1),v3,v4,v5,v6,v7,v8,v9,v10,v11,v12,v13,v14,v15,v16,v17,v18,v19,v20,v21,())
 else
 none
 else
 some ((v3,v4,v5,v6,v7,v8,v9,v10,v20,v21,v19,()))
 ) (100000000000000000000) (x)
def f161(a0 a1 a2 a3:Int)(a4:LZ)(a5:LE)(a6:LI)(a7 a8 a9 a10 a11:Int):Option (T0) :=
 Option.bind (f176 a0 a1 a2 a3 a4 a5 a6 a7 a8 a9 a10) fun y0 =>
 f161.L1 ((a11,(↑(List.length y0.2.2.2.2.2.2.2.2.2.2.1):Int),0,y0.1,y0.2.1,y0.2.2.1,y0.2.2.2.1,y0.2.2.2.2.1,y0.2.2.2.2.2.1,y0.2.2.2.2.2.2.1,y0.2.2.2.2.2.2.2.1,0,0,0,0,0,0,0,0,y0.2.2.2.2.2.2.2.2.2.2.1,y0.2.2.2.2.2.2.2.2.1,y0.2.2.2.2.2.2.2.2.2.1,()))
def f161.S:FnSpec:=⟨⟨[(0,wS),(1,n6)],[]⟩,[⟨[(0,aw (.own 0) (.own 1) (.own 2))],[(0,a8),(1,aE),(2,aI)]⟩],[],fun(a,b,c,d,e,f,g,h,i,j,k,l,_)=>f161 a b c d e f g h i j k l⟩
theorem f161.sound:SO 161 f161.S:=so [b f176.sound] n0 [] [(4,⟨[(1,n6),(2,pt 0),(4,pt 1),(10,ow 2),(11,n6),(12,n6)],[(0,bw (.own 3) (.own 4) (.own 2)),(1,bw .nils .nils .nils),(2,aI),(3,a8),(4,aE)]⟩)] [] 0 (by kernel_rfl) fun _=>by kernel_rfl
def f115(a0 a1 a2 a3:Int)(a4:LZ)(a5:LE)(a6:LI)(a7 a8 a9 a10 a11 a12:Int):Option (T0) :=
 Option.bind (f113 a0 a1 a2 a3 a4 a5 a6 a7 a8 a9 a10) fun y0 =>
 Option.bind (f114 y0.1 y0.2.1 y0.2.2.1 y0.2.2.2.1 y0.2.2.2.2.2.2.2.2.1 y0.2.2.2.2.2.2.2.2.2.1 y0.2.2.2.2.2.2.2.2.2.2.1 y0.2.2.2.2.1 y0.2.2.2.2.2.1 y0.2.2.2.2.2.2.1 y0.2.2.2.2.2.2.2.1 a11) fun y1 =>
 bif !y1.1 then
 some ((y0.1,y0.2.1,y0.2.2.1,y0.2.2.2.1,y0.2.2.2.2.1,y0.2.2.2.2.2.1,y0.2.2.2.2.2.2.1,y0.2.2.2.2.2.2.2.1,y0.2.2.2.2.2.2.2.2.1,y0.2.2.2.2.2.2.2.2.2.1,y0.2.2.2.2.2.2.2.2.2.2.1,()))
 else
 bif decide (a12<1) then
 some ((y0.1,y0.2.1,y0.2.2.1,y0.2.2.2.1,y0.2.2.2.2.1,y0.2.2.2.2.2.1,y0.2.2.2.2.2.2.1,y0.2.2.2.2.2.2.2.1,y0.2.2.2.2.2.2.2.2.1,y0.2.2.2.2.2.2.2.2.2.1,y0.2.2.2.2.2.2.2.2.2.2.1,()))
 else
 bif inRange a11 (List.length y0.2.2.2.2.2.2.2.2.2.1) then
 bif decide ((List.getD y0.2.2.2.2.2.2.2.2.2.1 (Int.toNat a11) zE).2.2.2.2.2.1>a12) then
 let s0:LE:=List.set y0.2.2.2.2.2.2.2.2.2.1 (Int.toNat a11) ((List.getD y0.2.2.2.2.2.2.2.2.2.1 (Int.toNat a11) zE).1,(List.getD y0.2.2.2.2.2.2.2.2.2.1 (Int.toNat a11) zE).2.1,(List.getD y0.2.2.2.2.2.2.2.2.2.1 (Int.toNat a11) zE).2.2.1,(List.getD y0.2.2.2.2.2.2.2.2.2.1 (Int.toNat a11) zE).2.2.2.1,(List.getD y0.2.2.2.2.2.2.2.2.2.1 (Int.toNat a11) zE).2.2.2.2.1,IntKind.wrap .i64 ((List.getD y0.2.2.2.2.2.2.2.2.2.1 (Int.toNat a11) zE).2.2.2.2.2.1-a12),(List.getD y0.2.2.2.2.2.2.2.2.2.1 (Int.toNat a11) zE).2.2.2.2.2.2.1,(List.getD y0.2.2.2.2.2.2.2.2.2.1 (Int.toNat a11) zE).2.2.2.2.2.2.2.1,(List.getD y0.2.2.2.2.2.2.2.2.2.1 (Int.toNat a11) zE).2.2.2.2.2.2.2.2.1,(List.getD y0.2.2.2.2.2.2.2.2.2.1 (Int.toNat a11) zE).2.2.2.2.2.2.2.2.2.1,(List.getD y0.2.2.2.2.2.2.2.2.2.1 (Int.toNat a11) zE).2.2.2.2.2.2.2.2.2.2)
 some ((y0.1,y0.2.1,y0.2.2.1,y0.2.2.2.1,y0.2.2.2.2.1,y0.2.2.2.2.2.1,y0.2.2.2.2.2.2.1,y0.2.2.2.2.2.2.2.1,y0.2.2.2.2.2.2.2.2.1,s0,y0.2.2.2.2.2.2.2.2.2.2.1,()))
 else
 Option.bind (f116 y0.2.2.2.2.2.2.2.2.2.1 a11) fun y2 =>
 bif (List.getD y0.2.2.2.2.2.2.2.2.2.1 (Int.toNat a11) zE).1==1 then
 Option.bind (f161 y0.1 y0.2.1 y0.2.2.1 y0.2.2.2.1 y0.2.2.2.2.2.2.2.2.1 y2.1 y0.2.2.2.2.2.2.2.2.2.2.1 y0.2.2.2.2.1 y0.2.2.2.2.2.1 y0.2.2.2.2.2.2.1 y0.2.2.2.2.2.2.2.1 (List.getD y0.2.2.2.2.2.2.2.2.2.1 (Int.toNat a11) zE).2.2.1) fun y3 =>
 some ((y3.1,y3.2.1,y3.2.2.1,y3.2.2.2.1,y3.2.2.2.2.1,y3.2.2.2.2.2.1,y3.2.2.2.2.2.2.1,y3.2.2.2.2.2.2.2.1,y3.2.2.2.2.2.2.2.2.1,y3.2.2.2.2.2.2.2.2.2.1,y3.2.2.2.2.2.2.2.2.2.2.1,()))
 else
 some ((y0.1,y0.2.1,y0.2.2.1,y0.2.2.2.1,y0.2.2.2.2.1,y0.2.2.2.2.2.1,y0.2.2.2.2.2.2.1,y0.2.2.2.2.2.2.2.1,y0.2.2.2.2.2.2.2.2.1,y2.1,y0.2.2.2.2.2.2.2.2.2.2.1,()))
 else
 none
def f115.S:FnSpec:=⟨⟨[(0,wS),(1,n6),(2,n6)],[]⟩,[⟨[(0,aw (.own 0) (.own 1) (.own 2))],[(0,a8),(1,aE),(2,aI)]⟩],[],fun(a,b,c,d,e,f,g,h,i,j,k,l,m,_)=>f115 a b c d e f g h i j k l m⟩
theorem f115.sound:SO 115 f115.S:=so [b f114.sound,b f113.sound,b f116.sound,b f161.sound] n0 [] [] [] 0 (by kernel_rfl) fun _=>by kernel_rfl
def f160(a0 a1 a2 a3:Int)(a4:LZ)(a5:LE)(a6:LI)(a7 a8 a9 a10 a11 a12:Int):Option (T0) :=
 Option.bind (f114 a0 a1 a2 a3 a4 a5 a6 a7 a8 a9 a10 a11) fun y0 =>
 bif !y0.1 then
 Option.bind (f113 a0 a1 a2 a3 a4 a5 a6 a7 a8 a9 a10) fun y1 =>
 some ((y1.1,y1.2.1,y1.2.2.1,y1.2.2.2.1,y1.2.2.2.2.1,y1.2.2.2.2.2.1,y1.2.2.2.2.2.2.1,y1.2.2.2.2.2.2.2.1,y1.2.2.2.2.2.2.2.2.1,y1.2.2.2.2.2.2.2.2.2.1,y1.2.2.2.2.2.2.2.2.2.2.1,()))
 else
 Option.bind (f114 a0 a1 a2 a3 a4 a5 a6 a7 a8 a9 a10 a12) fun y2 =>
 bif !y2.1 then
 Option.bind (f113 a0 a1 a2 a3 a4 a5 a6 a7 a8 a9 a10) fun y3 =>
 some ((y3.1,y3.2.1,y3.2.2.1,y3.2.2.2.1,y3.2.2.2.2.1,y3.2.2.2.2.2.1,y3.2.2.2.2.2.2.1,y3.2.2.2.2.2.2.2.1,y3.2.2.2.2.2.2.2.2.1,y3.2.2.2.2.2.2.2.2.2.1,y3.2.2.2.2.2.2.2.2.2.2.1,()))
 else
 Option.bind (f182 a0 a1 a2 a3 a4 a5 a6 a7 a8 a9 a10 a11) fun y4 =>
 Option.bind (f182 a0 a1 a2 a3 a4 a5 a6 a7 a8 a9 a10 a12) fun y5 =>
 bif inRange a11 (List.length a5) then
 Option.bind (f71 3 a0 [a1,a11,a12,77]) fun y6 =>
 Option.bind (f115 a0 a1 a2 a3 a4 a5 a6 a7 a8 a9 a10 a12 (IntKind.wrap .i64 (maxI 1 (IntKind.wrap .i64 (y4.1-y5.2.1))+y6.1))) fun y7 =>
 Option.bind (f114 y7.1 y7.2.1 y7.2.2.1 y7.2.2.2.1 y7.2.2.2.2.2.2.2.2.1 y7.2.2.2.2.2.2.2.2.2.1 y7.2.2.2.2.2.2.2.2.2.2.1 y7.2.2.2.2.1 y7.2.2.2.2.2.1 y7.2.2.2.2.2.2.1 y7.2.2.2.2.2.2.2.1 a12) fun y8 =>
 bif !y8.1 then
 some ((y7.1,y7.2.1,y7.2.2.1,y7.2.2.2.1,y7.2.2.2.2.1,y7.2.2.2.2.2.1,y7.2.2.2.2.2.2.1,y7.2.2.2.2.2.2.2.1,y7.2.2.2.2.2.2.2.2.1,y7.2.2.2.2.2.2.2.2.2.1,y7.2.2.2.2.2.2.2.2.2.2.1,()))
 else
 bif inRange a12 (List.length y7.2.2.2.2.2.2.2.2.2.1) then
 Option.bind (α:=T5⊕T0) (
 bif (List.getD a5 (Int.toNat a11) zE).1==4 then
 let s0:LE:=List.set y7.2.2.2.2.2.2.2.2.2.1 (Int.toNat a12) ((List.getD y7.2.2.2.2.2.2.2.2.2.1 (Int.toNat a12) zE).1,(List.getD y7.2.2.2.2.2.2.2.2.2.1 (Int.toNat a12) zE).2.1,(List.getD y7.2.2.2.2.2.2.2.2.2.1 (Int.toNat a12) zE).2.2.1,(List.getD y7.2.2.2.2.2.2.2.2.2.1 (Int.toNat a12) zE).2.2.2.1,(List.getD y7.2.2.2.2.2.2.2.2.2.1 (Int.toNat a12) zE).2.2.2.2.1,(List.getD y7.2.2.2.2.2.2.2.2.2.1 (Int.toNat a12) zE).2.2.2.2.2.1,(List.getD y7.2.2.2.2.2.2.2.2.2.1 (Int.toNat a12) zE).2.2.2.2.2.2.1,(List.getD y7.2.2.2.2.2.2.2.2.2.1 (Int.toNat a12) zE).2.2.2.2.2.2.2.1,(List.getD y7.2.2.2.2.2.2.2.2.2.1 (Int.toNat a12) zE).2.2.2.2.2.2.2.2.1,minI (IntKind.wrap .i64 ((List.getD y7.2.2.2.2.2.2.2.2.2.1 (Int.toNat a12) zE).2.2.2.2.2.2.2.2.2.1+3)) 9,(List.getD y7.2.2.2.2.2.2.2.2.2.1 (Int.toNat a12) zE).2.2.2.2.2.2.2.2.2.2)
 some (Sum.inl (y7.1,y7.2.1,y7.2.2.1,y7.2.2.2.1,y7.2.2.2.2.1,y7.2.2.2.2.2.1,y7.2.2.2.2.2.2.1,y7.2.2.2.2.2.2.2.1,0,0,0,0,0,0,0,0,y7.2.2.2.2.2.2.2.2.1,s0,y7.2.2.2.2.2.2.2.2.2.2.1,()))
 else
 bif (List.getD a5 (Int.toNat a11) zE).1==3 then
 Option.bind (f71 4 y7.1 [y7.2.1,a11,a12,78]) fun y12 =>
 bif y12.1 !=0 then
 some (Sum.inl (y7.1,y7.2.1,y7.2.2.1,y7.2.2.2.1,y7.2.2.2.2.1,y7.2.2.2.2.2.1,y7.2.2.2.2.2.2.1,y7.2.2.2.2.2.2.2.1,0,0,0,0,0,0,0,0,y7.2.2.2.2.2.2.2.2.1,y7.2.2.2.2.2.2.2.2.2.1,y7.2.2.2.2.2.2.2.2.2.2.1,()))
 else
 let s0:LE:=List.set y7.2.2.2.2.2.2.2.2.2.1 (Int.toNat a12) ((List.getD y7.2.2.2.2.2.2.2.2.2.1 (Int.toNat a12) zE).1,(List.getD y7.2.2.2.2.2.2.2.2.2.1 (Int.toNat a12) zE).2.1,(List.getD y7.2.2.2.2.2.2.2.2.2.1 (Int.toNat a12) zE).2.2.1,(List.getD y7.2.2.2.2.2.2.2.2.2.1 (Int.toNat a12) zE).2.2.2.1,(List.getD y7.2.2.2.2.2.2.2.2.2.1 (Int.toNat a12) zE).2.2.2.2.1,(List.getD y7.2.2.2.2.2.2.2.2.2.1 (Int.toNat a12) zE).2.2.2.2.2.1,(List.getD y7.2.2.2.2.2.2.2.2.2.1 (Int.toNat a12) zE).2.2.2.2.2.2.1,(List.getD y7.2.2.2.2.2.2.2.2.2.1 (Int.toNat a12) zE).2.2.2.2.2.2.2.1,(List.getD y7.2.2.2.2.2.2.2.2.2.1 (Int.toNat a12) zE).2.2.2.2.2.2.2.2.1,(List.getD y7.2.2.2.2.2.2.2.2.2.1 (Int.toNat a12) zE).2.2.2.2.2.2.2.2.2.1,minI (IntKind.wrap .i64 ((List.getD y7.2.2.2.2.2.2.2.2.2.1 (Int.toNat a12) zE).2.2.2.2.2.2.2.2.2.2+2)) 9)
 some (Sum.inl (y7.1,y7.2.1,y7.2.2.1,y7.2.2.2.1,y7.2.2.2.2.1,y7.2.2.2.2.2.1,y7.2.2.2.2.2.2.1,y7.2.2.2.2.2.2.2.1,0,0,0,0,0,0,0,0,y7.2.2.2.2.2.2.2.2.1,s0,y7.2.2.2.2.2.2.2.2.2.2.1,()))
 else
 some (Sum.inl (y7.1,y7.2.1,y7.2.2.1,y7.2.2.2.1,y7.2.2.2.2.1,y7.2.2.2.2.2.1,y7.2.2.2.2.2.2.1,y7.2.2.2.2.2.2.2.1,0,0,0,0,0,0,0,0,y7.2.2.2.2.2.2.2.2.1,y7.2.2.2.2.2.2.2.2.2.1,y7.2.2.2.2.2.2.2.2.2.2.1,()))
 ) fun y9 =>
 Sum.elim (fun y10=>match y10 with
 | (u10_0,u10_1,u10_2,u10_3,u10_4,u10_5,u10_6,u10_7,_,_,_,_,_,_,_,_,u10_16,u10_17,u10_18,_) =>
 some ((u10_0,u10_1,u10_2,u10_3,u10_4,u10_5,u10_6,u10_7,u10_16,u10_17,u10_18,()))
 ) (fun z11 =>
 some (z11)
 ) (y9)
 else
 none
 else
 none
def f160.S:FnSpec:=⟨⟨[(0,wS),(1,n6),(2,n6)],[]⟩,[⟨[(0,aw (.own 0) (.own 1) (.own 2))],[(0,a8),(1,aE),(2,aI)]⟩],[],fun(a,b,c,d,e,f,g,h,i,j,k,l,m,_)=>f160 a b c d e f g h i j k l m⟩
theorem f160.sound:SO 160 f160.S:=so [b f71.sound,b f114.sound,b f113.sound,b f182.sound,b f115.sound] n0 [(17,⟨[(3,pt 0),(6,pt 1)],[(0,bw (.own 2) (.own 3) (.own 4)),(1,bw .nils .nils .nils),(2,a8),(3,aE),(4,aI)]⟩)] [] [] 0 (by kernel_rfl) fun _=>by kernel_rfl
def f112(a0 a1 a2 a3 a4 a5 a6 a7 a8 a9:Int)(a10 a11:Bool)(a12:LZ)(a13:LE)(a14:LI):Option (T2) :=
 bif inRange a0 (List.length a13) then
 Option.bind (f78 a1) fun y0 =>
 Option.bind (f96 a13 (IntKind.wrap .i64 ((List.getD a13 (Int.toNat a0) zE).2.2.2.1+y0.1)) (IntKind.wrap .i64 ((List.getD a13 (Int.toNat a0) zE).2.2.2.2.1+y0.2.1))) fun y1 =>
 Option.bind (α:=Int×T40⊕T2) (
 bif decide (y1.1<0) then
 Option.bind (f95 a12 (IntKind.wrap .i64 ((List.getD a13 (Int.toNat a0) zE).2.2.2.1+y0.1)) (IntKind.wrap .i64 ((List.getD a13 (Int.toNat a0) zE).2.2.2.2.1+y0.2.1))) fun y6 =>
 Option.bind (f15 y6.1) fun y7 =>
 some (Sum.inl (a0,IntKind.wrap .i64 ((List.getD a13 (Int.toNat a0) zE).2.2.2.1+y0.1),IntKind.wrap .i64 ((List.getD a13 (Int.toNat a0) zE).2.2.2.2.1+y0.2.1),y1.1,y7.1,a2,a3,a4,a5,a6,a7,a8,a9,a10,a11,(List.getD a13 (Int.toNat a0) zE).1,(List.getD a13 (Int.toNat a0) zE).2.1,(List.getD a13 (Int.toNat a0) zE).2.2.1,(List.getD a13 (Int.toNat a0) zE).2.2.2.1,(List.getD a13 (Int.toNat a0) zE).2.2.2.2.1,(List.getD a13 (Int.toNat a0) zE).2.2.2.2.2.1,(List.getD a13 (Int.toNat a0) zE).2.2.2.2.2.2.1,(List.getD a13 (Int.toNat a0) zE).2.2.2.2.2.2.2.1,(List.getD a13 (Int.toNat a0) zE).2.2.2.2.2.2.2.2.1,(List.getD a13 (Int.toNat a0) zE).2.2.2.2.2.2.2.2.2.1,(List.getD a13 (Int.toNat a0) zE).2.2.2.2.2.2.2.2.2.2,a12,a13,a14,()))
 else
 some (Sum.inl (a0,IntKind.wrap .i64 ((List.getD a13 (Int.toNat a0) zE).2.2.2.1+y0.1),IntKind.wrap .i64 ((List.getD a13 (Int.toNat a0) zE).2.2.2.2.1+y0.2.1),y1.1,Bool.false,a2,a3,a4,a5,a6,a7,a8,a9,a10,a11,(List.getD a13 (Int.toNat a0) zE).1,(List.getD a13 (Int.toNat a0) zE).2.1,(List.getD a13 (Int.toNat a0) zE).2.2.1,(List.getD a13 (Int.toNat a0) zE).2.2.2.1,(List.getD a13 (Int.toNat a0) zE).2.2.2.2.1,(List.getD a13 (Int.toNat a0) zE).2.2.2.2.2.1,(List.getD a13 (Int.toNat a0) zE).2.2.2.2.2.2.1,(List.getD a13 (Int.toNat a0) zE).2.2.2.2.2.2.2.1,(List.getD a13 (Int.toNat a0) zE).2.2.2.2.2.2.2.2.1,(List.getD a13 (Int.toNat a0) zE).2.2.2.2.2.2.2.2.2.1,(List.getD a13 (Int.toNat a0) zE).2.2.2.2.2.2.2.2.2.2,a12,a13,a14,()))
 ) fun y2 =>
 Sum.elim (fun y3=>match y3 with
 | (u3_0,u3_1,u3_2,u3_3,u3_4,u3_5,u3_6,u3_7,u3_8,u3_9,u3_10,u3_11,u3_12,u3_13,u3_14,u3_15,_,_,_,_,_,_,_,_,_,_,u3_26,u3_27,u3_28,_) =>
 bif u3_4 then
 bif inRange u3_0 (List.length u3_27) then
 let s0:LE:=List.set u3_27 (Int.toNat u3_0) ((List.getD u3_27 (Int.toNat u3_0) zE).1,(List.getD u3_27 (Int.toNat u3_0) zE).2.1,(List.getD u3_27 (Int.toNat u3_0) zE).2.2.1,u3_1,(List.getD u3_27 (Int.toNat u3_0) zE).2.2.2.2.1,(List.getD u3_27 (Int.toNat u3_0) zE).2.2.2.2.2.1,(List.getD u3_27 (Int.toNat u3_0) zE).2.2.2.2.2.2.1,(List.getD u3_27 (Int.toNat u3_0) zE).2.2.2.2.2.2.2.1,(List.getD u3_27 (Int.toNat u3_0) zE).2.2.2.2.2.2.2.2.1,(List.getD u3_27 (Int.toNat u3_0) zE).2.2.2.2.2.2.2.2.2.1,(List.getD u3_27 (Int.toNat u3_0) zE).2.2.2.2.2.2.2.2.2.2)
 bif inRange u3_0 (List.length s0) then
 let s1:LE:=List.set s0 (Int.toNat u3_0) ((List.getD s0 (Int.toNat u3_0) zE).1,(List.getD s0 (Int.toNat u3_0) zE).2.1,(List.getD s0 (Int.toNat u3_0) zE).2.2.1,(List.getD s0 (Int.toNat u3_0) zE).2.2.2.1,u3_2,(List.getD s0 (Int.toNat u3_0) zE).2.2.2.2.2.1,(List.getD s0 (Int.toNat u3_0) zE).2.2.2.2.2.2.1,(List.getD s0 (Int.toNat u3_0) zE).2.2.2.2.2.2.2.1,(List.getD s0 (Int.toNat u3_0) zE).2.2.2.2.2.2.2.2.1,(List.getD s0 (Int.toNat u3_0) zE).2.2.2.2.2.2.2.2.2.1,(List.getD s0 (Int.toNat u3_0) zE).2.2.2.2.2.2.2.2.2.2)
 some ((u3_5,u3_6,u3_7,u3_8,u3_9,u3_10,u3_11,u3_12,u3_13,u3_14,u3_26,s1,u3_28,()))
 else
 none
 else
 none
 else
 bif decide (u3_3≥0) then
 bif inRange u3_3 (List.length u3_27) then
 bif !((List.getD u3_27 (Int.toNat u3_3) zE).1==1)==(u3_15==1) then
 Option.bind (f160 u3_5 u3_6 u3_7 u3_8 u3_26 u3_27 u3_28 u3_9 u3_10 u3_11 u3_12 u3_0 u3_3) fun y5 =>
 some ((y5.1,y5.2.1,y5.2.2.1,y5.2.2.2.1,y5.2.2.2.2.1,y5.2.2.2.2.2.1,y5.2.2.2.2.2.2.1,y5.2.2.2.2.2.2.2.1,u3_13,u3_14,y5.2.2.2.2.2.2.2.2.1,y5.2.2.2.2.2.2.2.2.2.1,y5.2.2.2.2.2.2.2.2.2.2.1,()))
 else
 some ((u3_5,u3_6,u3_7,u3_8,u3_9,u3_10,u3_11,u3_12,u3_13,u3_14,u3_26,u3_27,u3_28,()))
 else
 none
 else
 some ((u3_5,u3_6,u3_7,u3_8,u3_9,u3_10,u3_11,u3_12,u3_13,u3_14,u3_26,u3_27,u3_28,()))
 ) (fun z4 =>
 some (z4)
 ) (y2)
 else
 none
def f112.S:FnSpec:=⟨⟨[(0,pt 0),(1,n6),(2,n6)],[(0,bx (.own 1) (.own 2) (.own 3)),(1,a8),(2,aE),(3,aI)]⟩,[⟨[],[(0,bx (.own 4) (.own 5) (.own 6)),(4,a8),(5,aE),(6,aI)]⟩],[0],fun(a,b,c,d,e,f,g,h,i,j,k,l,m,n,o,_)=>f112 a b c d e f g h i j k l m n o⟩
theorem f112.sound:SO 112 f112.S:=so [b f15.sound,b f96.sound,b f78.sound,b f95.sound,b f160.sound] n0 [(6,⟨[(0,pt 0),(1,n6),(6,pt 4),(9,n6),(10,n6),(11,n6),(41,nb)],[(0,bx (.own 5) (.own 6) (.own 7)),(4,bz),(5,a8),(6,aE),(7,aI)]⟩)] [] [] 4 (by kernel_rfl) fun _=>by kernel_rfl
def f194(a0:Int):Option (Bool×Unit) :=
 some ((decide (a0<0),()))
def f194.S:FnSpec:=⟨⟨[(0,n6)],[]⟩,[⟨[(0,nb)],[]⟩],[],fun x=>f194 x.1⟩
theorem f194.sound:SO 194 f194.S:=so [] n0 [] [] [] 0 (by kernel_rfl) fun _=>by kernel_rfl
def f187.L1(x:T51):Option (Int×Unit) :=
 it (X:=T51) (fun rec x=>match x with
 | (v0,v1,v2,v3,v4,v5,v6,v7,v8,v9,v10,v11,v12,_) =>
 bif decide (v1<4) then
 Option.bind (f180 v2 v3 v4 v5 v6 v7 v8 v9 v10 v11 v12 2 v0 v1) fun y0 =>
 Option.bind (f194 y0.1) fun y1 =>
 bif y1.1 then
 some ((v1,()))
 else
 rec (v0,IntKind.wrap .i64 (v1+1),v2,v3,v4,v5,v6,v7,v8,v9,v10,v11,v12,())
 else
 some ((-1,()))
 ) (100000000000000000000) (x)
def f187(a0 a1 a2 a3:Int)(a4:LZ)(a5:LE)(a6:LI)(a7 a8 a9 a10 a11:Int):Option (Int×Unit) :=
 f187.L1 ((a11,0,a0,a1,a2,a3,a4,a5,a6,a7,a8,a9,a10,()))
def f187.S:FnSpec:=⟨⟨[(0,wS),(1,n6),(2,.c (.fn 194 []))],[]⟩,[⟨[(0,n6)],[]⟩],[],fun(a,b,c,d,e,f,g,h,i,j,k,l,_)=>f187 a b c d e f g h i j k l⟩
theorem f187.sound:SO 187 f187.S:=so [b f180.sound,b f194.sound] n0 [] [(3,⟨[(1,n6),(2,.c (.fn 194 [])),(3,pt 0),(8,n6)],[(0,bw q8 qE qI)]⟩)] [] 0 (by kernel_rfl) fun _=>by kernel_rfl
def f193(a0 a1 a2 a3:Int)(a4:LZ)(a5:LE)(a6:LI)(a7 a8 a9 a10 a11:Int):Option (Int×Unit) :=
 Option.bind (f187 a0 a1 a2 a3 a4 a5 a6 a7 a8 a9 a10 a11) fun y0 =>
 some ((y0.1,()))
def f193.S:FnSpec:=⟨⟨[(0,wS),(1,n6)],[]⟩,[⟨[(0,n6)],[]⟩],[],fun(a,b,c,d,e,f,g,h,i,j,k,l,_)=>f193 a b c d e f g h i j k l⟩
theorem f193.sound:SO 193 f193.S:=so [b f187.sound] n0 [] [] [] 0 (by kernel_rfl) fun _=>by kernel_rfl
def f186(a0 a1 a2 a3 a4 a5 a6 a7 a8 a9:Int)(a10:LZ)(a11:LE)(a12:LI):Option (Bool×T12) :=
 Option.bind (f193 a0 a1 a2 a3 a10 a11 a12 a4 a5 a6 a7 a8) fun y0 =>
 bif decide (y0.1<0) then
 some ((Bool.false,a10,a11,a12,()))
 else
 bif inRange a9 (List.length a12) then
 let s0:LI:=List.set a12 (Int.toNat a9) ((List.getD a12 (Int.toNat a9) (0,0,0,0)).1,2,(List.getD a12 (Int.toNat a9) (0,0,0,0)).2.2.1,(List.getD a12 (Int.toNat a9) (0,0,0,0)).2.2.2)
 let s1:LI:=List.set s0 (Int.toNat a9) ((List.getD s0 (Int.toNat a9) (0,0,0,0)).1,(List.getD s0 (Int.toNat a9) (0,0,0,0)).2.1,a8,(List.getD s0 (Int.toNat a9) (0,0,0,0)).2.2.2)
 let s2:LI:=List.set s1 (Int.toNat a9) ((List.getD s1 (Int.toNat a9) (0,0,0,0)).1,(List.getD s1 (Int.toNat a9) (0,0,0,0)).2.1,(List.getD s1 (Int.toNat a9) (0,0,0,0)).2.2.1,y0.1)
 some ((Bool.true,a10,a11,s2,()))
 else
 none
def f186.S:FnSpec:=⟨⟨[(0,aw (.own 0) (.own 1) (.own 2)),(1,n6),(2,n6)],[(0,a8),(1,aE),(2,aI)]⟩,[⟨[(0,nb)],[(0,a8),(1,aE),(2,aI)]⟩],[0,1,2],fun(a,b,c,d,e,f,g,h,i,j,k,l,m,_)=>f186 a b c d e f g h i j k l m⟩
theorem f186.sound:SO 186 f186.S:=so [b f193.sound] n0 [] [] [] 3 (by kernel_rfl) fun _=>by kernel_rfl
def f177(a0 a1 a2 a3 a4 a5 a6 a7 a8 a9 a10 a11 a12 a13 a14 a15 a16 a17 a18 a19:Int)(a20:LZ)(a21:LE)(a22:LI):Option (T0) :=
 Option.bind (f180 a12 a13 a14 a15 a20 a21 a22 a16 a17 a18 a19 1 a4 a5) fun y0 =>
 bif decide (y0.1<0) then
 some ((a12,a13,a14,a15,a16,a17,a18,a19,a20,a21,a22,()))
 else
 bif inRange y0.1 (List.length a22) then
 bif (List.getD a22 (Int.toNat y0.1) (0,0,0,0)).1==4 then
 bif inRange y0.1 (List.length a22) then
 bif inRange a0 4 then
 bif inRange a0 4 then
 some ((a12,a13,a14,a15,if Int.toNat a0=0/1 then minI (IntKind.wrap .i64 (List.getD [a16,a17,a18,a19] (Int.toNat a0) 0+5)) 999 else a16,if Int.toNat a0=(0+1)/1 then minI (IntKind.wrap .i64 (List.getD [a16,a17,a18,a19] (Int.toNat a0) 0+5)) 999 else a17,if Int.toNat a0=(0+1+1)/1 then minI (IntKind.wrap .i64 (List.getD [a16,a17,a18,a19] (Int.toNat a0) 0+5)) 999 else a18,if Int.toNat a0=(0+1+1+1)/1 then minI (IntKind.wrap .i64 (List.getD [a16,a17,a18,a19] (Int.toNat a0) 0+5)) 999 else a19,a20,a21,List.set a22 (Int.toNat y0.1) (0,0,0,0),()))
 else
 none
 else
 none
 else
 none
 else
 Option.bind (f186 a12 a13 a14 a15 a16 a17 a18 a19 a0 y0.1 a20 a21 a22) fun y1 =>
 some ((a12,a13,a14,a15,a16,a17,a18,a19,y1.2.1,y1.2.2.1,y1.2.2.2.1,()))
 else
 none
def f177.S:FnSpec:=⟨⟨[(0,pt 0),(1,n6),(2,eS)],[(0,bw (.own 1) (.own 2) (.own 3)),(1,a8),(2,aE),(3,aI)]⟩,[⟨[],[(0,bw (.own 1) (.own 2) (.own 3)),(1,a8),(2,aE),(3,aI)]⟩],[0,1,2,3],fun(a,b,c,d,e,f,g,h,i,j,k,l,m,n,o,p,q,r,s,t,u,v,w,_)=>f177 a b c d e f g h i j k l m n o p q r s t u v w⟩
theorem f177.sound:SO 177 f177.S:=so [b f180.sound,b f186.sound] n0 [] [] [] 4 (by kernel_rfl) fun _=>by kernel_rfl
def f188(a0:Int)(a1:LZ)(a2:T37):Option (Bool×Unit) :=
 bif decide (a0≥0) then
 bif inRange a0 (List.length a2.2.2.2.2.2.2.1) then
 Option.bind (f129 a1 (List.getD a2.2.2.2.2.2.2.1 (Int.toNat a0) (0,0,0,0)).1) fun y0 =>
 some ((y0.1,()))
 else
 none
 else
 some ((Bool.false,()))
def f188.S:FnSpec:=⟨⟨[(0,n6),(1,.c (.bptr (.row (.int .i64)))),(2,.c (.bptr (.prod (.int .i64) (.prod (.int .i64) (.prod (.int .i64) (.prod (.int .i64) (.prod (.row (.int .u8)) (.prod (.row tE) (.prod (.row tI) tI)))))))))],[]⟩,[⟨[(0,nb)],[]⟩],[],fun(a,b,c,_)=>f188 a b c⟩
theorem f188.sound:SO 188 f188.S:=so [b f129.sound] n0 [] [] [] 0 (by kernel_rfl) fun _=>by kernel_rfl
def f187_1.L1(x:Int×Int×LZ×T18):Option (Int×LZ×T7) :=
 it (X:=Int×Int×LZ×T18) (fun rec x=>match x with
 | (v0,v1,v2,v3,v4,v5,v6,v7,v8,v9,v10,v11,v12,v13,v14,v15,v16,v17,v18,v19,v20,v21,v22,v23,v24,_) =>
 bif decide (v1<4) then
 Option.bind (f180 v14 v15 v16 v17 v18 v19 v20 v21 v22 v23 v24 2 v0 v1) fun y0 =>
 Option.bind (f188 y0.1 v2 (v3,v4,v5,v6,v7,v8,v9,v10,v11,v12,v13)) fun y1 =>
 bif y1.1 then
 some ((v1,v2,v3,v4,v5,v6,v7,v8,v9,v10,v11,v12,v13,()))
 else
 rec (v0,IntKind.wrap .i64 (v1+1),v2,v3,v4,v5,v6,v7,v8,v9,v10,v11,v12,v13,v14,v15,v16,v17,v18,v19,v20,v21,v22,v23,v24,())
 else
 some ((-1,v2,v3,v4,v5,v6,v7,v8,v9,v10,v11,v12,v13,()))
 ) (100000000000000000000) (x)
def f187_1(a0 a1 a2 a3:Int)(a4:LZ)(a5:LE)(a6:LI)(a7 a8 a9 a10 a11:Int)(a12:LZ)(a13 a14 a15 a16:Int)(a17:LZ)(a18:LE)(a19:LI)(a20 a21 a22 a23:Int):Option (Int×LZ×T7) :=
 f187_1.L1 ((a11,0,a12,a13,a14,a15,a16,a17,a18,a19,a20,a21,a22,a23,a0,a1,a2,a3,a4,a5,a6,a7,a8,a9,a10,()))
def f187_1.S:FnSpec:=⟨⟨[(0,wS),(1,n6),(2,.c (.fn 188 [0,1]))],[(0,.box [.row (.int .i64)]),(1,bw q8 qE qI)]⟩,[⟨[(0,n6)],[(0,.box [.row (.int .i64)]),(1,bw q8 qE qI)]⟩],[0,1],fun(a,b,c,d,e,f,g,h,i,j,k,l,m,n,o,p,q,r,s,t,u,v,w,y,_)=>f187_1 a b c d e f g h i j k l m n o p q r s t u v w y⟩
theorem f187_1.sound:SO 187 f187_1.S:=so [b f180.sound,b f188.sound] n0 [] [(3,⟨[(1,n6),(2,.c (.fn 188 [0,1])),(3,pt 2),(8,n6)],[(0,.box [.row (.int .i64)]),(1,bw q8 qE qI),(2,bw q8 qE qI)]⟩)] [] 2 (by kernel_rfl) fun _=>by kernel_rfl
def f178(a0 a1 a2 a3:Int)(a4:LZ)(a5:LE)(a6:LI)(a7 a8 a9 a10 a11:Int)(a12:LZ):Option (Int×Unit) :=
 Option.bind (f187_1 a0 a1 a2 a3 a4 a5 a6 a7 a8 a9 a10 a11 a12 a0 a1 a2 a3 a4 a5 a6 a7 a8 a9 a10) fun y0 =>
 bif decide (y0.1<0) then
 some ((-1,()))
 else
 Option.bind (f180 y0.2.2.1 y0.2.2.2.1 y0.2.2.2.2.1 y0.2.2.2.2.2.1 y0.2.2.2.2.2.2.1 y0.2.2.2.2.2.2.2.1 y0.2.2.2.2.2.2.2.2.1 y0.2.2.2.2.2.2.2.2.2.1 y0.2.2.2.2.2.2.2.2.2.2.1 y0.2.2.2.2.2.2.2.2.2.2.2.1 y0.2.2.2.2.2.2.2.2.2.2.2.2.1 2 a11 y0.1) fun y1 =>
 some ((y1.1,()))
def f178.S:FnSpec:=⟨⟨[(0,wS),(1,n6),(2,.c (.row (.int .i64)))],[]⟩,[⟨[(0,n6)],[]⟩],[],fun(a,b,c,d,e,f,g,h,i,j,k,l,m,_)=>f178 a b c d e f g h i j k l m⟩
theorem f178.sound:SO 178 f178.S:=so [b f180.sound,b f187_1.sound] n0 [] [] [] 0 (by kernel_rfl) fun _=>by kernel_rfl
def f179(a0 a1 a2 a3 a4 a5 a6 a7 a8:Int)(a9:LZ)(a10:LE)(a11:LI):Option (T12) :=
 Option.bind (f178 a0 a1 a2 a3 a9 a10 a11 a4 a5 a6 a7 a8 [2,3]) fun y0 =>
 bif decide (y0.1<0) then
 some ((a9,a10,a11,()))
 else
 bif inRange y0.1 (List.length a11) then
 Option.bind (α:=Nat×Int×T12⊕T12) (
 Option.bind (f180 a0 a1 a2 a3 a9 a10 a11 a4 a5 a6 a7 3 a8 (IntKind.wrap .i64 ((List.getD a11 (Int.toNat y0.1) (0,0,0,0)).1-2))) fun y4 =>
 bif decide (y4.1≥0) then
 bif inRange y4.1 (List.length a11) then
 let s0:LI:=List.set a11 (Int.toNat y4.1) ((List.getD a11 (Int.toNat y4.1) (0,0,0,0)).1,2,(List.getD a11 (Int.toNat y4.1) (0,0,0,0)).2.2.1,(List.getD a11 (Int.toNat y4.1) (0,0,0,0)).2.2.2)
 bif inRange y4.1 (List.length s0) then
 let s1:LI:=List.set s0 (Int.toNat y4.1) ((List.getD s0 (Int.toNat y4.1) (0,0,0,0)).1,(List.getD s0 (Int.toNat y4.1) (0,0,0,0)).2.1,(List.getD s0 (Int.toNat y4.1) (0,0,0,0)).2.2.1,(List.getD a11 (Int.toNat y0.1) (0,0,0,0)).2.2.2)
 some (Sum.inl (Int.toNat y0.1,IntKind.wrap .i64 ((List.getD a11 (Int.toNat y0.1) (0,0,0,0)).1-2),a9,a10,s1,()))
 else
 none
 else
 none
 else
 some (Sum.inl (Int.toNat y0.1,IntKind.wrap .i64 ((List.getD a11 (Int.toNat y0.1) (0,0,0,0)).1-2),a9,a10,a11,()))
 ) fun y1 =>
 Sum.elim (fun y2 =>
 let s0:LI:=List.set y2.2.2.2.2.1 y2.1 ((List.getD y2.2.2.2.2.1 y2.1 (0,0,0,0)).1,3,(List.getD y2.2.2.2.2.1 y2.1 (0,0,0,0)).2.2.1,(List.getD y2.2.2.2.2.1 y2.1 (0,0,0,0)).2.2.2)
 let s1:LI:=List.set s0 y2.1 ((List.getD s0 y2.1 (0,0,0,0)).1,(List.getD s0 y2.1 (0,0,0,0)).2.1,(List.getD s0 y2.1 (0,0,0,0)).2.2.1,y2.2.1)
 some ((y2.2.2.1,y2.2.2.2.1,s1,()))
 ) (fun z3 =>
 some (z3)
 ) (y1)
 else
 none
def f179.S:FnSpec:=⟨⟨[(0,aw (.own 0) (.own 1) (.own 2)),(1,n6)],[(0,a8),(1,aE),(2,aI)]⟩,[⟨[],[(0,a8),(1,aE),(2,aI)]⟩],[0,1,2],fun(a,b,c,d,e,f,g,h,i,j,k,l,_)=>f179 a b c d e f g h i j k l⟩
theorem f179.sound:SO 179 f179.S:=so [b f180.sound,b f178.sound] n0 [(9,⟨[(5,.c (.eptr 2 0)),(6,n6)],[(0,a8),(1,aE),(2,aI)]⟩)] [] [] 3 (by kernel_rfl) fun _=>by kernel_rfl
def f191(a0 a1 a2 a3 a4:Int):Option (Bool×Unit) :=
 bif a0 !=0 then
 bif a1==4 then
 some ((a2==a4,()))
 else
 some ((Bool.false,()))
 else
 some ((Bool.false,()))
def f191.S:FnSpec:=⟨⟨[(0,.agg [i6,i6,i6,i6]),(1,.c (.bptr (.int .i64)))],[]⟩,[⟨[(0,nb)],[]⟩],[],fun(a,b,c,d,e,_)=>f191 a b c d e⟩
theorem f191.sound:SO 191 f191.S:=so [] n0 [] [] [] 0 (by kernel_rfl) fun _=>by kernel_rfl
def f189_1.L1(x:LI×Int×T3):Option (T3) :=
 it (X:=LI×Int×T3) (fun rec x =>
 bif decide (x.2.2.1<x.2.1) then
 bif inRange x.2.2.1 (List.length x.1) then
 Option.bind (f191 (List.getD x.1 (Int.toNat x.2.2.1) (0,0,0,0)).1 (List.getD x.1 (Int.toNat x.2.2.1) (0,0,0,0)).2.1 (List.getD x.1 (Int.toNat x.2.2.1) (0,0,0,0)).2.2.1 (List.getD x.1 (Int.toNat x.2.2.1) (0,0,0,0)).2.2.2 x.2.2.2.1) fun y0 =>
 bif y0.1 then
 some ((x.2.2.1,x.2.2.2.1,()))
 else
 rec (x.1,x.2.1,IntKind.wrap .i64 (x.2.2.1+1),x.2.2.2.1,())
 else
 none
 else
 some ((-1,x.2.2.2.1,()))
 ) (100000000000000000000) (x)
def f189_1(a0:LI)(a1:Int):Option (T3) :=
 f189_1.L1 ((a0,(↑(List.length a0):Int),0,a1,()))
def f189_1.S:FnSpec:=⟨⟨[(0,rI),(1,.c (.fn 191 [0]))],[(0,.box [i6])]⟩,[⟨[(0,n6)],[(0,.box [i6])]⟩],[0],fun x=>f189_1 x.1 x.2.1⟩
theorem f189_1.sound:SO 189 f189_1.S:=so [b f191.sound] n0 [] [(3,⟨[(0,rI),(1,.c (.fn 191 [0])),(7,n6),(8,n6)],[(0,.box [i6])]⟩)] [] 1 (by kernel_rfl) fun _=>by kernel_rfl
def f181.L1(x:Int×Int×T0):Option (T0) :=
 it (X:=Int×Int×T0) (fun rec x=>match x with
 | (v0,v1,v2,v3,v4,v5,v6,v7,v8,v9,v10,v11,v12,_) =>
 bif decide (v1<3) then
 Option.bind (f189_1 v12 v1) fun y0 =>
 bif decide (y0.1≥0) then
 Option.bind (f186 v2 v3 v4 v5 v6 v7 v8 v9 v0 y0.1 v10 v11 v12) fun y1 =>
 bif y1.1 then
 bif inRange v0 4 then
 bif inRange v0 4 then
 some ((v2,v3,v4,v5,if Int.toNat v0=0/1 then IntKind.wrap .i64 (List.getD [v6,v7,v8,v9] (Int.toNat v0) 0-5) else v6,if Int.toNat v0=(0+1)/1 then IntKind.wrap .i64 (List.getD [v6,v7,v8,v9] (Int.toNat v0) 0-5) else v7,if Int.toNat v0=(0+1+1)/1 then IntKind.wrap .i64 (List.getD [v6,v7,v8,v9] (Int.toNat v0) 0-5) else v8,if Int.toNat v0=(0+1+1+1)/1 then IntKind.wrap .i64 (List.getD [v6,v7,v8,v9] (Int.toNat v0) 0-5) else v9,y1.2.1,y1.2.2.1,y1.2.2.2.1,()))
 else
 none
 else
 none
 else
 some ((v2,v3,v4,v5,v6,v7,v8,v9,y1.2.1,y1.2.2.1,y1.2.2.2.1,()))
 else
 rec (v0,IntKind.wrap .i64 (v1+1),v2,v3,v4,v5,v6,v7,v8,v9,v10,v11,v12,())
 else
 some ((v2,v3,v4,v5,v6,v7,v8,v9,v10,v11,v12,()))
 ) (100000000000000000000) (x)
def f181(a0 a1 a2 a3 a4 a5 a6 a7 a8 a9 a10 a11 a12 a13 a14 a15 a16 a17 a18 a19:Int)(a20:LZ)(a21:LE)(a22:LI):Option (T0) :=
 Option.bind (f95 a20 a4 a5) fun y0 =>
 bif y0.1 !=5 then
 some ((a12,a13,a14,a15,a16,a17,a18,a19,a20,a21,a22,()))
 else
 bif inRange a0 4 then
 bif decide (List.getD [a16,a17,a18,a19] (Int.toNat a0) 0<5) then
 some ((a12,a13,a14,a15,a16,a17,a18,a19,a20,a21,a22,()))
 else
 f181.L1 ((a0,0,a12,a13,a14,a15,a16,a17,a18,a19,a20,a21,a22,()))
 else
 none
def f181.S:FnSpec:=⟨⟨[(0,pt 0),(1,n6),(2,eS)],[(0,bw (.own 1) (.own 2) (.own 3)),(1,a8),(2,aE),(3,aI)]⟩,[⟨[],[(0,bw (.own 1) (.own 2) (.own 3)),(1,a8),(2,aE),(3,aI)]⟩],[0,1,2,3],fun(a,b,c,d,e,f,g,h,i,j,k,l,m,n,o,p,q,r,s,t,u,v,w,_)=>f181 a b c d e f g h i j k l m n o p q r s t u v w⟩
theorem f181.sound:SO 181 f181.S:=so [b f95.sound,b f186.sound,b f189_1.sound] n0 [] [(4,⟨[(0,pt 0),(1,n6),(27,n6)],[(0,bw (.own 1) (.own 2) (.own 3)),(1,a8),(2,aE),(3,aI)]⟩)] [] 4 (by kernel_rfl) fun _=>by kernel_rfl
def f159(a0 a1 a2 a3:Int)(a4:LZ)(a5:LE)(a6:LI)(a7 a8 a9 a10 a11 a12:Int):Option (T0) :=
 Option.bind (f176 a0 a1 a2 a3 a4 a5 a6 a7 a8 a9 a10) fun y0 =>
 Option.bind (f97 y0.2.2.2.2.2.2.2.2.2.1 a11) fun y1 =>
 bif decide (y1.1<0) then
 some ((y0.1,y0.2.1,y0.2.2.1,y0.2.2.2.1,y0.2.2.2.2.1,y0.2.2.2.2.2.1,y0.2.2.2.2.2.2.1,y0.2.2.2.2.2.2.2.1,y0.2.2.2.2.2.2.2.2.1,y0.2.2.2.2.2.2.2.2.2.1,y0.2.2.2.2.2.2.2.2.2.2.1,()))
 else
 bif decide (a11<0) then
 some ((y0.1,y0.2.1,y0.2.2.1,y0.2.2.2.1,y0.2.2.2.2.1,y0.2.2.2.2.2.1,y0.2.2.2.2.2.2.1,y0.2.2.2.2.2.2.2.1,y0.2.2.2.2.2.2.2.2.1,y0.2.2.2.2.2.2.2.2.2.1,y0.2.2.2.2.2.2.2.2.2.2.1,()))
 else
 bif decide (a11≥4) then
 some ((y0.1,y0.2.1,y0.2.2.1,y0.2.2.2.1,y0.2.2.2.2.1,y0.2.2.2.2.2.1,y0.2.2.2.2.2.2.1,y0.2.2.2.2.2.2.2.1,y0.2.2.2.2.2.2.2.2.1,y0.2.2.2.2.2.2.2.2.2.1,y0.2.2.2.2.2.2.2.2.2.2.1,()))
 else
 bif inRange y1.1 (List.length y0.2.2.2.2.2.2.2.2.2.1) then
 Option.bind (α:=T5⊕T0) (
 bif a12==5 then
 Option.bind (f177 a11 (List.getD y0.2.2.2.2.2.2.2.2.2.1 (Int.toNat y1.1) zE).1 (List.getD y0.2.2.2.2.2.2.2.2.2.1 (Int.toNat y1.1) zE).2.1 (List.getD y0.2.2.2.2.2.2.2.2.2.1 (Int.toNat y1.1) zE).2.2.1 (List.getD y0.2.2.2.2.2.2.2.2.2.1 (Int.toNat y1.1) zE).2.2.2.1 (List.getD y0.2.2.2.2.2.2.2.2.2.1 (Int.toNat y1.1) zE).2.2.2.2.1 (List.getD y0.2.2.2.2.2.2.2.2.2.1 (Int.toNat y1.1) zE).2.2.2.2.2.1 (List.getD y0.2.2.2.2.2.2.2.2.2.1 (Int.toNat y1.1) zE).2.2.2.2.2.2.1 (List.getD y0.2.2.2.2.2.2.2.2.2.1 (Int.toNat y1.1) zE).2.2.2.2.2.2.2.1 (List.getD y0.2.2.2.2.2.2.2.2.2.1 (Int.toNat y1.1) zE).2.2.2.2.2.2.2.2.1 (List.getD y0.2.2.2.2.2.2.2.2.2.1 (Int.toNat y1.1) zE).2.2.2.2.2.2.2.2.2.1 (List.getD y0.2.2.2.2.2.2.2.2.2.1 (Int.toNat y1.1) zE).2.2.2.2.2.2.2.2.2.2 y0.1 y0.2.1 y0.2.2.1 y0.2.2.2.1 y0.2.2.2.2.1 y0.2.2.2.2.2.1 y0.2.2.2.2.2.2.1 y0.2.2.2.2.2.2.2.1 y0.2.2.2.2.2.2.2.2.1 y0.2.2.2.2.2.2.2.2.2.1 y0.2.2.2.2.2.2.2.2.2.2.1) fun y5 =>
 some (Sum.inl (y5.1,y5.2.1,y5.2.2.1,y5.2.2.2.1,y5.2.2.2.2.1,y5.2.2.2.2.2.1,y5.2.2.2.2.2.2.1,y5.2.2.2.2.2.2.2.1,0,0,0,0,0,0,0,0,y5.2.2.2.2.2.2.2.2.1,y5.2.2.2.2.2.2.2.2.2.1,y5.2.2.2.2.2.2.2.2.2.2.1,()))
 else
 bif a12==6 then
 Option.bind (f178 y0.1 y0.2.1 y0.2.2.1 y0.2.2.2.1 y0.2.2.2.2.2.2.2.2.1 y0.2.2.2.2.2.2.2.2.2.1 y0.2.2.2.2.2.2.2.2.2.2.1 y0.2.2.2.2.1 y0.2.2.2.2.2.1 y0.2.2.2.2.2.2.1 y0.2.2.2.2.2.2.2.1 a11 [1]) fun y6 =>
 bif decide (y6.1≥0) then
 bif inRange y6.1 (List.length y0.2.2.2.2.2.2.2.2.2.2.1) then
 let s0:LE:=List.set y0.2.2.2.2.2.2.2.2.2.1 (Int.toNat y1.1) ((List.getD y0.2.2.2.2.2.2.2.2.2.1 (Int.toNat y1.1) zE).1,(List.getD y0.2.2.2.2.2.2.2.2.2.1 (Int.toNat y1.1) zE).2.1,(List.getD y0.2.2.2.2.2.2.2.2.2.1 (Int.toNat y1.1) zE).2.2.1,(List.getD y0.2.2.2.2.2.2.2.2.2.1 (Int.toNat y1.1) zE).2.2.2.1,(List.getD y0.2.2.2.2.2.2.2.2.2.1 (Int.toNat y1.1) zE).2.2.2.2.1,minI (IntKind.wrap .i64 ((List.getD y0.2.2.2.2.2.2.2.2.2.1 (Int.toNat y1.1) zE).2.2.2.2.2.1+6)) (List.getD y0.2.2.2.2.2.2.2.2.2.1 (Int.toNat y1.1) zE).2.2.2.2.2.2.1,(List.getD y0.2.2.2.2.2.2.2.2.2.1 (Int.toNat y1.1) zE).2.2.2.2.2.2.1,(List.getD y0.2.2.2.2.2.2.2.2.2.1 (Int.toNat y1.1) zE).2.2.2.2.2.2.2.1,(List.getD y0.2.2.2.2.2.2.2.2.2.1 (Int.toNat y1.1) zE).2.2.2.2.2.2.2.2.1,(List.getD y0.2.2.2.2.2.2.2.2.2.1 (Int.toNat y1.1) zE).2.2.2.2.2.2.2.2.2.1,(List.getD y0.2.2.2.2.2.2.2.2.2.1 (Int.toNat y1.1) zE).2.2.2.2.2.2.2.2.2.2)
 let s1:LE:=List.set s0 (Int.toNat y1.1) ((List.getD s0 (Int.toNat y1.1) zE).1,(List.getD s0 (Int.toNat y1.1) zE).2.1,(List.getD s0 (Int.toNat y1.1) zE).2.2.1,(List.getD s0 (Int.toNat y1.1) zE).2.2.2.1,(List.getD s0 (Int.toNat y1.1) zE).2.2.2.2.1,(List.getD s0 (Int.toNat y1.1) zE).2.2.2.2.2.1,(List.getD s0 (Int.toNat y1.1) zE).2.2.2.2.2.2.1,(List.getD s0 (Int.toNat y1.1) zE).2.2.2.2.2.2.2.1,(List.getD s0 (Int.toNat y1.1) zE).2.2.2.2.2.2.2.2.1,0,(List.getD s0 (Int.toNat y1.1) zE).2.2.2.2.2.2.2.2.2.2)
 some (Sum.inl (y0.1,y0.2.1,y0.2.2.1,y0.2.2.2.1,y0.2.2.2.2.1,y0.2.2.2.2.2.1,y0.2.2.2.2.2.2.1,y0.2.2.2.2.2.2.2.1,0,0,0,0,0,0,0,0,y0.2.2.2.2.2.2.2.2.1,s1,List.set y0.2.2.2.2.2.2.2.2.2.2.1 (Int.toNat y6.1) (0,0,0,0),()))
 else
 none
 else
 some (Sum.inl (y0.1,y0.2.1,y0.2.2.1,y0.2.2.2.1,y0.2.2.2.2.1,y0.2.2.2.2.2.1,y0.2.2.2.2.2.2.1,y0.2.2.2.2.2.2.2.1,0,0,0,0,0,0,0,0,y0.2.2.2.2.2.2.2.2.1,y0.2.2.2.2.2.2.2.2.2.1,y0.2.2.2.2.2.2.2.2.2.2.1,()))
 else
 bif a12==7 then
 Option.bind (f179 y0.1 y0.2.1 y0.2.2.1 y0.2.2.2.1 y0.2.2.2.2.1 y0.2.2.2.2.2.1 y0.2.2.2.2.2.2.1 y0.2.2.2.2.2.2.2.1 a11 y0.2.2.2.2.2.2.2.2.1 y0.2.2.2.2.2.2.2.2.2.1 y0.2.2.2.2.2.2.2.2.2.2.1) fun y7 =>
 some (Sum.inl (y0.1,y0.2.1,y0.2.2.1,y0.2.2.2.1,y0.2.2.2.2.1,y0.2.2.2.2.2.1,y0.2.2.2.2.2.2.1,y0.2.2.2.2.2.2.2.1,0,0,0,0,0,0,0,0,y7.1,y7.2.1,y7.2.2.1,()))
 else
 bif a12==8 then
 Option.bind (f178 y0.1 y0.2.1 y0.2.2.1 y0.2.2.2.1 y0.2.2.2.2.2.2.2.2.1 y0.2.2.2.2.2.2.2.2.2.1 y0.2.2.2.2.2.2.2.2.2.2.1 y0.2.2.2.2.1 y0.2.2.2.2.2.1 y0.2.2.2.2.2.2.1 y0.2.2.2.2.2.2.2.1 a11 [1,2,3,4]) fun y8 =>
 Option.bind (α:=Nat×Int×Bool×T38⊕T5⊕T0) (
 bif decide (y8.1≥0) then
 Option.bind (f180 y0.1 y0.2.1 y0.2.2.1 y0.2.2.2.1 y0.2.2.2.2.2.2.2.2.1 y0.2.2.2.2.2.2.2.2.2.1 y0.2.2.2.2.2.2.2.2.2.2.1 y0.2.2.2.2.1 y0.2.2.2.2.2.1 y0.2.2.2.2.2.2.1 y0.2.2.2.2.2.2.2.1 1 (List.getD y0.2.2.2.2.2.2.2.2.2.1 (Int.toNat y1.1) zE).2.2.2.1 (List.getD y0.2.2.2.2.2.2.2.2.2.1 (Int.toNat y1.1) zE).2.2.2.2.1) fun y12 =>
 some (Sum.inl (Int.toNat y1.1,y8.1,decide (y12.1<0),y0.1,y0.2.1,y0.2.2.1,y0.2.2.2.1,y0.2.2.2.2.1,y0.2.2.2.2.2.1,y0.2.2.2.2.2.2.1,y0.2.2.2.2.2.2.2.1,0,0,0,0,0,0,0,0,y0.2.2.2.2.2.2.2.2.2.1,y0.2.2.2.2.2.2.2.2.1,y0.2.2.2.2.2.2.2.2.2.2.1,()))
 else
 some (Sum.inl (Int.toNat y1.1,y8.1,Bool.false,y0.1,y0.2.1,y0.2.2.1,y0.2.2.2.1,y0.2.2.2.2.1,y0.2.2.2.2.2.1,y0.2.2.2.2.2.2.1,y0.2.2.2.2.2.2.2.1,0,0,0,0,0,0,0,0,y0.2.2.2.2.2.2.2.2.2.1,y0.2.2.2.2.2.2.2.2.1,y0.2.2.2.2.2.2.2.2.2.2.1,()))
 ) fun y9 =>
 Sum.elim (fun y10=>match y10 with
 | (u10_0,u10_1,u10_2,u10_3,u10_4,u10_5,u10_6,u10_7,u10_8,u10_9,u10_10,u10_11,u10_12,u10_13,u10_14,u10_15,u10_16,u10_17,u10_18,u10_19,u10_20,u10_21,_) =>
 bif u10_2 then
 bif inRange u10_1 (List.length u10_21) then
 let s0:LI:=List.set u10_21 (Int.toNat u10_1) ((List.getD u10_21 (Int.toNat u10_1) (0,0,0,0)).1,1,(List.getD u10_21 (Int.toNat u10_1) (0,0,0,0)).2.2.1,(List.getD u10_21 (Int.toNat u10_1) (0,0,0,0)).2.2.2)
 let s1:LI:=List.set s0 (Int.toNat u10_1) ((List.getD s0 (Int.toNat u10_1) (0,0,0,0)).1,(List.getD s0 (Int.toNat u10_1) (0,0,0,0)).2.1,(List.getD u10_19 u10_0 zE).2.2.2.1,(List.getD s0 (Int.toNat u10_1) (0,0,0,0)).2.2.2)
 let s2:LI:=List.set s1 (Int.toNat u10_1) ((List.getD s1 (Int.toNat u10_1) (0,0,0,0)).1,(List.getD s1 (Int.toNat u10_1) (0,0,0,0)).2.1,(List.getD s1 (Int.toNat u10_1) (0,0,0,0)).2.2.1,(List.getD u10_19 u10_0 zE).2.2.2.2.1)
 some (Sum.inl (u10_3,u10_4,u10_5,u10_6,u10_7,u10_8,u10_9,u10_10,u10_11,u10_12,u10_13,u10_14,u10_15,u10_16,u10_17,u10_18,u10_20,u10_19,s2,()))
 else
 none
 else
 some (Sum.inl (u10_3,u10_4,u10_5,u10_6,u10_7,u10_8,u10_9,u10_10,u10_11,u10_12,u10_13,u10_14,u10_15,u10_16,u10_17,u10_18,u10_20,u10_19,u10_21,()))
 ) (fun z11 =>
 some (z11)
 ) (y9)
 else
 bif a12==10 then
 Option.bind (f181 a11 (List.getD y0.2.2.2.2.2.2.2.2.2.1 (Int.toNat y1.1) zE).1 (List.getD y0.2.2.2.2.2.2.2.2.2.1 (Int.toNat y1.1) zE).2.1 (List.getD y0.2.2.2.2.2.2.2.2.2.1 (Int.toNat y1.1) zE).2.2.1 (List.getD y0.2.2.2.2.2.2.2.2.2.1 (Int.toNat y1.1) zE).2.2.2.1 (List.getD y0.2.2.2.2.2.2.2.2.2.1 (Int.toNat y1.1) zE).2.2.2.2.1 (List.getD y0.2.2.2.2.2.2.2.2.2.1 (Int.toNat y1.1) zE).2.2.2.2.2.1 (List.getD y0.2.2.2.2.2.2.2.2.2.1 (Int.toNat y1.1) zE).2.2.2.2.2.2.1 (List.getD y0.2.2.2.2.2.2.2.2.2.1 (Int.toNat y1.1) zE).2.2.2.2.2.2.2.1 (List.getD y0.2.2.2.2.2.2.2.2.2.1 (Int.toNat y1.1) zE).2.2.2.2.2.2.2.2.1 (List.getD y0.2.2.2.2.2.2.2.2.2.1 (Int.toNat y1.1) zE).2.2.2.2.2.2.2.2.2.1 (List.getD y0.2.2.2.2.2.2.2.2.2.1 (Int.toNat y1.1) zE).2.2.2.2.2.2.2.2.2.2 y0.1 y0.2.1 y0.2.2.1 y0.2.2.2.1 y0.2.2.2.2.1 y0.2.2.2.2.2.1 y0.2.2.2.2.2.2.1 y0.2.2.2.2.2.2.2.1 y0.2.2.2.2.2.2.2.2.1 y0.2.2.2.2.2.2.2.2.2.1 y0.2.2.2.2.2.2.2.2.2.2.1) fun y13 =>
 some (Sum.inl (y13.1,y13.2.1,y13.2.2.1,y13.2.2.2.1,y13.2.2.2.2.1,y13.2.2.2.2.2.1,y13.2.2.2.2.2.2.1,y13.2.2.2.2.2.2.2.1,0,0,0,0,0,0,0,0,y13.2.2.2.2.2.2.2.2.1,y13.2.2.2.2.2.2.2.2.2.1,y13.2.2.2.2.2.2.2.2.2.2.1,()))
 else
 some (Sum.inl (y0.1,y0.2.1,y0.2.2.1,y0.2.2.2.1,y0.2.2.2.2.1,y0.2.2.2.2.2.1,y0.2.2.2.2.2.2.1,y0.2.2.2.2.2.2.2.1,0,0,0,0,0,0,0,0,y0.2.2.2.2.2.2.2.2.1,y0.2.2.2.2.2.2.2.2.2.1,y0.2.2.2.2.2.2.2.2.2.2.1,()))
 ) fun y2 =>
 Sum.elim (fun y3=>match y3 with
 | (u3_0,u3_1,u3_2,u3_3,u3_4,u3_5,u3_6,u3_7,_,_,_,_,_,_,_,_,u3_16,u3_17,u3_18,_) =>
 some ((u3_0,u3_1,u3_2,u3_3,u3_4,u3_5,u3_6,u3_7,u3_16,u3_17,u3_18,()))
 ) (fun z4 =>
 some (z4)
 ) (y2)
 else
 none
def f159.S:FnSpec:=⟨⟨[(0,wS),(1,n6),(2,n6)],[]⟩,[⟨[(0,aw (.own 0) (.own 1) (.own 2))],[(0,a8),(1,aE),(2,aI)]⟩],[],fun(a,b,c,d,e,f,g,h,i,j,k,l,m,_)=>f159 a b c d e f g h i j k l m⟩
theorem f159.sound:SO 159 f159.S:=so [b f97.sound,b f180.sound,b f176.sound,b f177.sound,b f178.sound,b f179.sound,b f181.sound] n0 [(20,⟨[(3,pt 0),(6,pt 1),(8,.c (.eptr 2 0)),(10,n6),(95,nb)],[(0,bw (.own 3) (.own 2) (.own 4)),(1,bw .nils .nils .nils),(2,aE),(3,a8),(4,aI)]⟩),(24,⟨[(3,pt 0),(6,pt 1)],[(0,bw (.own 2) (.own 3) (.own 4)),(1,bw .nils .nils .nils),(2,a8),(3,aE),(4,aI)]⟩)] [] [] 0 (by kernel_rfl) fun _=>by kernel_rfl
def f110(a0 a1 a2 a3 a4 a5 a6 a7 a8 a9 a10:Int)(a11 a12:Bool)(a13:LZ)(a14:LE)(a15:LI):Option (T2) :=
 bif inRange a1 (List.length a14) then
 Option.bind (α:=T40⊕T2) (
 bif decide (a2≥1) then
 some (Sum.inl (a0,a1,a2,decide (a2≤4),a3,a4,a5,a6,a7,a8,a9,a10,a11,a12,(List.getD a14 (Int.toNat a1) zE).1,(List.getD a14 (Int.toNat a1) zE).2.1,(List.getD a14 (Int.toNat a1) zE).2.2.1,(List.getD a14 (Int.toNat a1) zE).2.2.2.1,(List.getD a14 (Int.toNat a1) zE).2.2.2.2.1,(List.getD a14 (Int.toNat a1) zE).2.2.2.2.2.1,(List.getD a14 (Int.toNat a1) zE).2.2.2.2.2.2.1,(List.getD a14 (Int.toNat a1) zE).2.2.2.2.2.2.2.1,(List.getD a14 (Int.toNat a1) zE).2.2.2.2.2.2.2.2.1,(List.getD a14 (Int.toNat a1) zE).2.2.2.2.2.2.2.2.2.1,(List.getD a14 (Int.toNat a1) zE).2.2.2.2.2.2.2.2.2.2,a13,a14,a15,()))
 else
 some (Sum.inl (a0,a1,a2,Bool.false,a3,a4,a5,a6,a7,a8,a9,a10,a11,a12,(List.getD a14 (Int.toNat a1) zE).1,(List.getD a14 (Int.toNat a1) zE).2.1,(List.getD a14 (Int.toNat a1) zE).2.2.1,(List.getD a14 (Int.toNat a1) zE).2.2.2.1,(List.getD a14 (Int.toNat a1) zE).2.2.2.2.1,(List.getD a14 (Int.toNat a1) zE).2.2.2.2.2.1,(List.getD a14 (Int.toNat a1) zE).2.2.2.2.2.2.1,(List.getD a14 (Int.toNat a1) zE).2.2.2.2.2.2.2.1,(List.getD a14 (Int.toNat a1) zE).2.2.2.2.2.2.2.2.1,(List.getD a14 (Int.toNat a1) zE).2.2.2.2.2.2.2.2.2.1,(List.getD a14 (Int.toNat a1) zE).2.2.2.2.2.2.2.2.2.2,a13,a14,a15,()))
 ) fun y0 =>
 Sum.elim (fun y1=>match y1 with
 | (u1_0,u1_1,u1_2,u1_3,u1_4,u1_5,u1_6,u1_7,u1_8,u1_9,u1_10,u1_11,u1_12,u1_13,_,_,_,u1_17,u1_18,_,_,_,_,_,_,u1_25,u1_26,u1_27,_) =>
 bif u1_3 then
 Option.bind (f112 u1_1 u1_2 u1_4 u1_5 u1_6 u1_7 u1_8 u1_9 u1_10 u1_11 u1_12 u1_13 u1_25 u1_26 u1_27) fun y3 =>
 some ((y3.1,y3.2.1,y3.2.2.1,y3.2.2.2.1,y3.2.2.2.2.1,y3.2.2.2.2.2.1,y3.2.2.2.2.2.2.1,y3.2.2.2.2.2.2.2.1,y3.2.2.2.2.2.2.2.2.1,y3.2.2.2.2.2.2.2.2.2.1,y3.2.2.2.2.2.2.2.2.2.2.1,y3.2.2.2.2.2.2.2.2.2.2.2.1,y3.2.2.2.2.2.2.2.2.2.2.2.2.1,()))
 else
 bif u1_2==9 then
 bif u1_13 then
 some ((u1_4,u1_5,u1_6,u1_7,u1_8,u1_9,u1_10,u1_11,u1_12,Bool.true,u1_25,u1_26,u1_27,()))
 else
 Option.bind (f95 u1_25 u1_17 u1_18) fun y4 =>
 some ((u1_4,u1_5,u1_6,u1_7,u1_8,u1_9,u1_10,u1_11,u1_12,y4.1==4,u1_25,u1_26,u1_27,()))
 else
 bif decide (u1_2>4) then
 bif decide (u1_2≤10) then
 Option.bind (f159 u1_4 u1_5 u1_6 u1_7 u1_25 u1_26 u1_27 u1_8 u1_9 u1_10 u1_11 u1_0 u1_2) fun y5 =>
 some ((y5.1,y5.2.1,y5.2.2.1,y5.2.2.2.1,y5.2.2.2.2.1,y5.2.2.2.2.2.1,y5.2.2.2.2.2.2.1,y5.2.2.2.2.2.2.2.1,u1_12,u1_13,y5.2.2.2.2.2.2.2.2.1,y5.2.2.2.2.2.2.2.2.2.1,y5.2.2.2.2.2.2.2.2.2.2.1,()))
 else
 some ((u1_4,u1_5,u1_6,u1_7,u1_8,u1_9,u1_10,u1_11,u1_12,u1_13,u1_25,u1_26,u1_27,()))
 else
 some ((u1_4,u1_5,u1_6,u1_7,u1_8,u1_9,u1_10,u1_11,u1_12,u1_13,u1_25,u1_26,u1_27,()))
 ) (fun z2 =>
 some (z2)
 ) (y0)
 else
 none
def f110.S:FnSpec:=⟨⟨[(0,pt 0),(1,n6),(2,n6),(3,n6)],[(0,bx (.own 1) (.own 2) (.own 3)),(1,a8),(2,aE),(3,aI)]⟩,[⟨[],[(0,bx (.own 4) (.own 5) (.own 6)),(4,a8),(5,aE),(6,aI)]⟩],[0],fun(a,b,c,d,e,f,g,h,i,j,k,l,m,n,o,p,_)=>f110 a b c d e f g h i j k l m n o p⟩
theorem f110.sound:SO 110 f110.S:=so [b f95.sound,b f112.sound,b f159.sound] n0 [(3,⟨[(0,pt 0),(1,n6),(2,n6),(3,n6),(8,pt 4),(17,nb)],[(0,bx (.own 5) (.own 6) (.own 7)),(4,bz),(5,a8),(6,aE),(7,aI)]⟩)] [] [] 4 (by kernel_rfl) fun _=>by kernel_rfl
def f56(a0 a1 a2:Int)(a3:Bool)(a4 a5 a6 a7 a8 a9 a10 a11:Int)(a12 a13:Bool)(a14:LZ)(a15:LE)(a16:LI):Option (T2) :=
 Option.bind (f97 a15 a0) fun y0 =>
 bif decide (y0.1<0) then
 some ((a4,a5,a6,a7,a8,a9,a10,a11,a12,a13,a14,a15,a16,()))
 else
 bif inRange y0.1 (List.length a15) then
 bif decide ((List.getD a15 (Int.toNat y0.1) zE).2.2.2.2.2.2.2.2.2.2>0) then
 some ((a4,a5,a6,a7,a8,a9,a10,a11,a12,a13,a14,a15,a16,()))
 else
 Option.bind (α:=Int×Int×Int×T2⊕T2) (
 bif a1==2 then
 Option.bind (f22 a4 a5 a6 a7 a14 a15 a16 a8 a9 a10 a11 a0) fun y5 =>
 some (Sum.inl (a0,y0.1,y5.1,a4,a5,a6,a7,a8,a9,a10,a11,a12,a13,a14,a15,a16,()))
 else
 bif a1==1 then
 some (Sum.inl (a0,y0.1,a2,a4,a5,a6,a7,a8,a9,a10,a11,a12,a13,a14,a15,a16,()))
 else
 some (Sum.inr (a4,a5,a6,a7,a8,a9,a10,a11,a12,a13,a14,a15,a16,()))
 ) fun y1 =>
 Sum.elim (fun y2=>match y2 with
 | (u2_0,u2_1,u2_2,u2_3,u2_4,u2_5,u2_6,u2_7,u2_8,u2_9,u2_10,u2_11,u2_12,u2_13,u2_14,u2_15,_) =>
 Option.bind (f110 u2_0 u2_1 u2_2 u2_3 u2_4 u2_5 u2_6 u2_7 u2_8 u2_9 u2_10 u2_11 u2_12 u2_13 u2_14 u2_15) fun y4 =>
 some ((y4.1,y4.2.1,y4.2.2.1,y4.2.2.2.1,y4.2.2.2.2.1,y4.2.2.2.2.2.1,y4.2.2.2.2.2.2.1,y4.2.2.2.2.2.2.2.1,y4.2.2.2.2.2.2.2.2.1,y4.2.2.2.2.2.2.2.2.2.1,y4.2.2.2.2.2.2.2.2.2.2.1,y4.2.2.2.2.2.2.2.2.2.2.2.1,y4.2.2.2.2.2.2.2.2.2.2.2.2.1,()))
 ) (fun z3 =>
 some (z3)
 ) (y1)
 else
 none
def f56.S:FnSpec:=⟨⟨[(0,pt 0),(1,n6),(2,.agg [i6,i6,.bool])],[(0,bx (.own 1) (.own 2) (.own 3)),(1,a8),(2,aE),(3,aI)]⟩,[⟨[],[(0,bx (.own 4) (.own 5) (.own 6)),(4,a8),(5,aE),(6,aI)]⟩],[0],fun(a,b,c,d,e,f,g,h,i,j,k,l,m,n,o,p,q,_)=>f56 a b c d e f g h i j k l m n o p q⟩
theorem f56.sound:SO 56 f56.S:=so [b f97.sound,b f22.sound,b f110.sound] n0 [(9,⟨[(0,pt 0),(1,n6),(6,n6),(7,n6)],[(0,bx (.own 4) (.own 5) (.own 6)),(4,a8),(5,aE),(6,aI)]⟩)] [] [] 4 (by kernel_rfl) fun _=>by kernel_rfl
def f231(a0:Int):Option (Int×Unit) :=
 Option.bind (α:=T3⊕Int×Unit) (
 bif decide (a0≥4294967296) then
 some (Sum.inl (Int.fdiv a0 (2 ^ Min.min 32 (IntKind.bits IntKind.u64)),32,()))
 else
 some (Sum.inl (a0,0,()))
 ) fun y0 =>
 Sum.elim (fun y1 =>
 Option.bind (α:=T3⊕Int×Unit) (
 bif decide (y1.1≥65536) then
 some (Sum.inl (Int.fdiv y1.1 (2 ^ Min.min 16 (IntKind.bits IntKind.u64)),IntKind.wrap .i64 (y1.2.1+16),()))
 else
 some (Sum.inl (y1.1,y1.2.1,()))
 ) fun y3 =>
 Sum.elim (fun y4 =>
 Option.bind (α:=T3⊕Int×Unit) (
 bif decide (y4.1≥256) then
 some (Sum.inl (Int.fdiv y4.1 (2 ^ Min.min 8 (IntKind.bits IntKind.u64)),IntKind.wrap .i64 (y4.2.1+8),()))
 else
 some (Sum.inl (y4.1,y4.2.1,()))
 ) fun y6 =>
 Sum.elim (fun y7 =>
 bif inRange (IntKind.wrap .u8 y7.1) (ByteArray.size tabB0) then
 some ((IntKind.wrap .i64 (y7.2.1+IntKind.wrap .i64 (↑(UInt8.toNat (Array.getD tabB0.data (Int.toNat (IntKind.wrap .u8 y7.1)) 0)):Int)),()))
 else
 none
 ) (fun z8 =>
 some (z8)
 ) (y6)
 ) (fun z5 =>
 some (z5)
 ) (y3)
 ) (fun z2 =>
 some (z2)
 ) (y0)
def f231.S:FnSpec:=⟨⟨[(0,.c (.int .u64))],[]⟩,[⟨[(0,n6)],[]⟩],[],fun x=>f231 x.1⟩
theorem f231.sound:SO 231 f231.S:=so [] n0 [(5,⟨[(0,.c (.int .u64)),(2,n6)],[]⟩),(8,⟨[(0,.c (.int .u64)),(2,n6)],[]⟩),(11,⟨[(0,.c (.int .u64)),(2,n6)],[]⟩)] [] [] 0 (by kernel_rfl) fun _=>by kernel_rfl
def f228(a0:Int):Option (Int×Unit) :=
 Option.bind (f231 a0) fun y0 =>
 some ((y0.1,()))
def f228.S:FnSpec:=⟨⟨[(0,.c (.int .u64))],[]⟩,[⟨[(0,n6)],[]⟩],[],fun x=>f228 x.1⟩
theorem f228.sound:SO 228 f228.S:=so [b f231.sound] n0 [] [] [] 0 (by kernel_rfl) fun _=>by kernel_rfl
def f225.L1(x:Int×T3):Option (Int×Unit) :=
 it (X:=Int×T3) (fun rec x =>
 bif decide (x.2.2.1>0) then
 bif decide (IntKind.wrap .i64 (x.2.1+x.2.2.1)=0) then
 none
 else
 bif decide (IntKind.wrap .i64 (x.2.1+x.2.2.1)≤IntKind.wrap .i64 (Int.tdiv x.1 (IntKind.wrap .i64 (x.2.1+x.2.2.1)))) then
 rec (x.1,IntKind.wrap .i64 (x.2.1+x.2.2.1),Int.fdiv x.2.2.1 (2 ^ Min.min 1 (IntKind.bits IntKind.i64)),())
 else
 rec (x.1,x.2.1,Int.fdiv x.2.2.1 (2 ^ Min.min 1 (IntKind.bits IntKind.i64)),())
 else
 some ((x.2.1,()))
 ) (100000000000000000000) (x)
def f225(a0:Int):Option (Int×Unit) :=
 bif decide (a0<1) then
 some ((0,()))
 else
 Option.bind (f228 (IntKind.wrap .u64 a0)) fun y0 =>
 bif decide (IntKind.wrap .i64 (Int.tdiv y0.1 2)<0) then
 none
 else
 f225.L1 ((a0,0,IntKind.wrap .i64 (1*2 ^ Min.min (Int.toNat (IntKind.wrap .i64 (Int.tdiv y0.1 2))) (IntKind.bits IntKind.i64)),()))
def f225.S:FnSpec:=⟨⟨[(0,n6)],[]⟩,[⟨[(0,n6)],[]⟩],[],fun x=>f225 x.1⟩
theorem f225.sound:SO 225 f225.S:=so [b f228.sound] n0 [] [(6,⟨[(0,n6),(3,n6),(4,n6)],[]⟩)] [] 0 (by kernel_rfl) fun _=>by kernel_rfl
def f223(a0 a1:Int):Option (Int×Unit) :=
 Option.bind (f225 (IntKind.wrap .i64 (65536*IntKind.wrap .i64 (IntKind.wrap .i64 (a0*a0)+IntKind.wrap .i64 (a1*a1))))) fun y0 =>
 some ((y0.1,()))
def f223.S:FnSpec:=⟨⟨[(0,n6),(1,n6)],[]⟩,[⟨[(0,n6)],[]⟩],[],fun x=>f223 x.1 x.2.1⟩
theorem f223.sound:SO 223 f223.S:=so [b f225.sound] n0 [] [] [] 0 (by kernel_rfl) fun _=>by kernel_rfl
def f229(a0 a1:Int):Option (Int×Unit) :=
 bif decide (IntKind.wrap .i64 (2*a1)=0) then
 none
 else
 Option.bind (α:=Int×Unit⊕Int×Unit) (
 bif decide (IntKind.wrap .i64 (2*a1)=0) then
 none
 else
 bif decide (Int.tmod (IntKind.wrap .i64 (IntKind.wrap .i64 (2*a0)+a1)) (IntKind.wrap .i64 (2*a1))<0) then
 some (Sum.inl (IntKind.wrap .i64 (IntKind.wrap .i64 (Int.tdiv (IntKind.wrap .i64 (IntKind.wrap .i64 (2*a0)+a1)) (IntKind.wrap .i64 (2*a1)))-1),()))
 else
 some (Sum.inl (IntKind.wrap .i64 (Int.tdiv (IntKind.wrap .i64 (IntKind.wrap .i64 (2*a0)+a1)) (IntKind.wrap .i64 (2*a1))),()))
 ) fun y0 =>
 Sum.elim (fun y1 =>
 some ((y1.1,()))
 ) (fun z2 =>
 some (z2)
 ) (y0)
def f229.S:FnSpec:=⟨⟨[(0,n6),(1,n6)],[]⟩,[⟨[(0,n6)],[]⟩],[],fun x=>f229 x.1 x.2.1⟩
theorem f229.sound:SO 229 f229.S:=so [] n0 [(5,⟨[(5,n6)],[]⟩)] [] [] 0 (by kernel_rfl) fun _=>by kernel_rfl
def f226.L1(x:Int×Int×T39):Option (LZ×Unit) :=
 it (X:=Int×Int×T39) (fun rec x=>match x with
 | (v0,v1,v2,v3,v4,v5,v6,_) =>
 bif decide (v5≤v4) then
 Option.bind (f229 (IntKind.wrap .i64 (v5*IntKind.wrap .i64 (v2-v0))) v4) fun y0 =>
 Option.bind (f229 (IntKind.wrap .i64 (v5*IntKind.wrap .i64 (v3-v1))) v4) fun y1 =>
 Option.bind (f77 (IntKind.wrap .i64 (v0+y0.1)) (IntKind.wrap .i64 (v1+y1.1))) fun y2 =>
 bif decide (List.length v6+1≤limit 8) then
 rec (v0,v1,v2,v3,v4,IntKind.wrap .i64 (v5+1),v6++[y2.1],())
 else
 none
 else
 some ((v6,()))
 ) (100000000000000000000) (x)
def f226(a0 a1 a2 a3:Int):Option (LZ×Unit) :=
 Option.bind (f77 a0 a1) fun y0 =>
 bif decide (y0.1<0) then
 some (([],()))
 else
 Option.bind (f77 a2 a3) fun y1 =>
 bif decide (y1.1<0) then
 some (([],()))
 else
 Option.bind (f77 a0 a1) fun y2 =>
 f226.L1 ((a0,a1,a2,a3,maxI (maxI (maxI (IntKind.wrap .i64 (a2-a0)) (IntKind.wrap .i64 (a0-a2))) (IntKind.wrap .i64 (a3-a1))) (IntKind.wrap .i64 (a1-a3)),1,[y2.1],()))
def f226.S:FnSpec:=⟨⟨[(0,n6),(1,n6),(2,n6),(3,n6)],[]⟩,[⟨[(0,ow 0)],[(0,.arr (.int .i64))]⟩],[],fun(a,b,c,d,_)=>f226 a b c d⟩
theorem f226.sound:SO 226 f226.S:=so [b f77.sound,b f229.sound] n0 [] [(7,⟨[(0,n6),(1,n6),(2,n6),(3,n6),(9,n6),(10,ow 0),(11,n6)],[(0,.arr (.int .i64))]⟩)] [] 0 (by kernel_rfl) fun _=>by kernel_rfl
def f227(a0:Int):Option (Bool×Unit) :=
 Option.bind (f15 a0) fun y0 =>
 bif y0.1 then
 some ((a0 !=2,()))
 else
 some ((Bool.false,()))
def f227.S:FnSpec:=⟨⟨[(0,n6)],[]⟩,[⟨[(0,nb)],[]⟩],[],fun x=>f227 x.1⟩
theorem f227.sound:SO 227 f227.S:=so [b f15.sound] n0 [] [] [] 0 (by kernel_rfl) fun _=>by kernel_rfl
def f224.L1(x:LZ×T29):Option (Bool×Unit) :=
 it (X:=LZ×T29) (fun rec x =>
 bif decide (x.2.1<IntKind.wrap .i64 ((↑(List.length x.2.2.1):Int)-1)) then
 bif inRange x.2.1 (List.length x.2.2.1) then
 Option.bind (f41 x.1 (List.getD x.2.2.1 (Int.toNat x.2.1) 0)) fun y0 =>
 Option.bind (f227 y0.1) fun y1 =>
 bif !y1.1 then
 some ((Bool.false,()))
 else
 rec (x.1,IntKind.wrap .i64 (x.2.1+1),x.2.2.1,())
 else
 none
 else
 some ((decide ((↑(List.length x.2.2.1):Int)>0),()))
 ) (100000000000000000000) (x)
def f224(a0:LZ)(a1 a2 a3 a4:Int):Option (Bool×Unit) :=
 Option.bind (f226 a1 a2 a3 a4) fun y0 =>
 f224.L1 ((a0,1,y0.1,()))
def f224.S:FnSpec:=⟨⟨[(0,r8),(1,n6),(2,n6),(3,n6),(4,n6)],[]⟩,[⟨[(0,nb)],[]⟩],[],fun(a,b,c,d,e,_)=>f224 a b c d e⟩
theorem f224.sound:SO 224 f224.S:=so [b f41.sound,b f226.sound,b f227.sound] n0 [] [(4,⟨[(0,r8),(11,ow 0),(12,n6)],[(0,.arr (.int .i64))]⟩)] [] 0 (by kernel_rfl) fun _=>by kernel_rfl
def f221.L1(x:Int×T59):Option (Int×Unit) :=
 it (X:=Int×T59) (fun rec x=>match x with
 | (v0,v1,v2,v3,v4,v5,v6,v7,v8,v9,v10,v11,v12,v13,v14,v15,v16,v17,v18,v19,v20,v21,v22,v23,v24,_) =>
 bif decide (v2<4) then
 Option.bind (f97 v8 v2) fun y0 =>
 bif decide (y0.1<0) then
 rec (v0,v1,IntKind.wrap .i64 (v2+1),v3,v4,v5,v6,v7,v8,v9,v10,v11,v12,v13,v14,v15,v16,v17,v18,v19,v20,v21,v22,v23,v24,())
 else
 bif inRange y0.1 (List.length v8) then
 Option.bind (f223 (IntKind.wrap .i64 ((List.getD v8 (Int.toNat y0.1) zE).2.2.2.1-v17)) (IntKind.wrap .i64 ((List.getD v8 (Int.toNat y0.1) zE).2.2.2.2.1-v18))) fun y1 =>
 bif decide (y1.1≤1536) then
 bif decide (v0<0) then
 Option.bind (f224 v7 v17 v18 (List.getD v8 (Int.toNat y0.1) zE).2.2.2.1 (List.getD v8 (Int.toNat y0.1) zE).2.2.2.2.1) fun y2 =>
 bif y2.1 then
 rec (y0.1,y1.1,IntKind.wrap .i64 (v2+1),v3,v4,v5,v6,v7,v8,v9,v10,v11,v12,v13,v14,v15,v16,v17,v18,v19,v20,v21,v22,v23,v24,())
 else
 rec (v0,v1,IntKind.wrap .i64 (v2+1),v3,v4,v5,v6,v7,v8,v9,v10,v11,v12,v13,v14,v15,v16,v17,v18,v19,v20,v21,v22,v23,v24,())
 else
 bif decide (y1.1<v1) then
 Option.bind (f224 v7 v17 v18 (List.getD v8 (Int.toNat y0.1) zE).2.2.2.1 (List.getD v8 (Int.toNat y0.1) zE).2.2.2.2.1) fun y3 =>
 bif y3.1 then
 rec (y0.1,y1.1,IntKind.wrap .i64 (v2+1),v3,v4,v5,v6,v7,v8,v9,v10,v11,v12,v13,v14,v15,v16,v17,v18,v19,v20,v21,v22,v23,v24,())
 else
 rec (v0,v1,IntKind.wrap .i64 (v2+1),v3,v4,v5,v6,v7,v8,v9,v10,v11,v12,v13,v14,v15,v16,v17,v18,v19,v20,v21,v22,v23,v24,())
 else
 rec (v0,v1,IntKind.wrap .i64 (v2+1),v3,v4,v5,v6,v7,v8,v9,v10,v11,v12,v13,v14,v15,v16,v17,v18,v19,v20,v21,v22,v23,v24,())
 else
 rec (v0,v1,IntKind.wrap .i64 (v2+1),v3,v4,v5,v6,v7,v8,v9,v10,v11,v12,v13,v14,v15,v16,v17,v18,v19,v20,v21,v22,v23,v24,())
 else
 none
 else
 some ((v0,()))
 ) (100000000000000000000) (x)
def f221(a0 a1 a2 a3:Int)(a4:LZ)(a5:LE)(a6:LI)(a7 a8 a9 a10 a11 a12 a13 a14 a15 a16 a17 a18 a19 a20 a21:Int):Option (Int×Unit) :=
 f221.L1 ((-1,0,0,a0,a1,a2,a3,a4,a5,a6,a7,a8,a9,a10,a11,a12,a13,a14,a15,a16,a17,a18,a19,a20,a21,()))
def f221.S:FnSpec:=⟨⟨[(0,wS),(1,eS)],[]⟩,[⟨[(0,n6)],[]⟩],[],fun(a,b,c,d,e,f,g,h,i,j,k,l,m,n,o,p,q,r,s,t,u,v,_)=>f221 a b c d e f g h i j k l m n o p q r s t u v⟩
theorem f221.sound:SO 221 f221.S:=so [b f97.sound,b f223.sound,b f224.sound] n0 [] [(4,⟨[(2,pt 0),(3,pt 1),(5,n6),(6,n6),(11,n6)],[(0,bw q8 qE qI),(1,bz)]⟩)] [] 0 (by kernel_rfl) fun _=>by kernel_rfl
def f222.L1(x:Int×T21):Option (Int×Unit) :=
 it (X:=Int×T21) (fun rec x =>
 bif decide (x.2.2.2.2.1≤4) then
 Option.bind (f78 x.2.2.2.2.1) fun y0 =>
 bif IntKind.wrap .i64 (x.2.2.1-x.1)==y0.1 then
 bif IntKind.wrap .i64 (x.2.2.2.1-x.2.1)==y0.2.1 then
 some ((x.2.2.2.2.1,()))
 else
 rec (x.1,x.2.1,x.2.2.1,x.2.2.2.1,IntKind.wrap .i64 (x.2.2.2.2.1+1),())
 else
 rec (x.1,x.2.1,x.2.2.1,x.2.2.2.1,IntKind.wrap .i64 (x.2.2.2.2.1+1),())
 else
 some ((0,()))
 ) (100000000000000000000) (x)
def f222(a0 a1 a2 a3:Int):Option (Int×Unit) :=
 f222.L1 ((a0,a1,a2,a3,1,()))
def f222.S:FnSpec:=⟨⟨[(0,n6),(1,n6),(2,n6),(3,n6)],[]⟩,[⟨[(0,n6)],[]⟩],[],fun(a,b,c,d,_)=>f222 a b c d⟩
theorem f222.sound:SO 222 f222.S:=so [b f78.sound] n0 [] [(3,⟨[(0,n6),(1,n6),(2,n6),(3,n6),(9,n6)],[]⟩)] [] 0 (by kernel_rfl) fun _=>by kernel_rfl
def f220(a0 a1 a2 a3 a4:Int)(a5:LZ)(a6:LE)(a7:LI)(a8 a9 a10 a11:Int):Option (Int×Unit) :=
 bif decide (a0<0) then
 some ((0,()))
 else
 bif decide (a0≥minI (↑(List.length a6):Int) 32) then
 some ((0,()))
 else
 bif inRange a0 (List.length a6) then
 bif (List.getD a6 (Int.toNat a0) zE).1==0 then
 some ((0,()))
 else
 bif (List.getD a6 (Int.toNat a0) zE).1==1 then
 some ((0,()))
 else
 Option.bind (f221 a1 a2 a3 a4 a5 a6 a7 a8 a9 a10 a11 (List.getD a6 (Int.toNat a0) zE).1 (List.getD a6 (Int.toNat a0) zE).2.1 (List.getD a6 (Int.toNat a0) zE).2.2.1 (List.getD a6 (Int.toNat a0) zE).2.2.2.1 (List.getD a6 (Int.toNat a0) zE).2.2.2.2.1 (List.getD a6 (Int.toNat a0) zE).2.2.2.2.2.1 (List.getD a6 (Int.toNat a0) zE).2.2.2.2.2.2.1 (List.getD a6 (Int.toNat a0) zE).2.2.2.2.2.2.2.1 (List.getD a6 (Int.toNat a0) zE).2.2.2.2.2.2.2.2.1 (List.getD a6 (Int.toNat a0) zE).2.2.2.2.2.2.2.2.2.1 (List.getD a6 (Int.toNat a0) zE).2.2.2.2.2.2.2.2.2.2) fun y0 =>
 bif decide (y0.1≥0) then
 bif inRange y0.1 (List.length a6) then
 Option.bind (f222 (List.getD a6 (Int.toNat a0) zE).2.2.2.1 (List.getD a6 (Int.toNat a0) zE).2.2.2.2.1 (List.getD a6 (Int.toNat y0.1) zE).2.2.2.1 (List.getD a6 (Int.toNat y0.1) zE).2.2.2.2.1) fun y1 =>
 bif y1.1 !=0 then
 some ((y1.1,()))
 else
 Option.bind (f16 a5 a6 (List.getD a6 (Int.toNat a0) zE).2.2.2.1 (List.getD a6 (Int.toNat a0) zE).2.2.2.2.1 [IntKind.wrap .i64 (IntKind.wrap .i64 ((List.getD a6 (Int.toNat y0.1) zE).2.2.2.2.1*24)+(List.getD a6 (Int.toNat y0.1) zE).2.2.2.1)]) fun y2 =>
 some ((y2.1,()))
 else
 none
 else
 Option.bind (f71 8 a1 [a2,a0,90]) fun y3 =>
 bif decide (y3.1<1) then
 some ((0,()))
 else
 bif decide (y3.1>4) then
 some ((0,()))
 else
 Option.bind (f214 (List.getD a6 (Int.toNat a0) zE).1 (List.getD a6 (Int.toNat a0) zE).2.1 (List.getD a6 (Int.toNat a0) zE).2.2.1 (List.getD a6 (Int.toNat a0) zE).2.2.2.1 (List.getD a6 (Int.toNat a0) zE).2.2.2.2.1 (List.getD a6 (Int.toNat a0) zE).2.2.2.2.2.1 (List.getD a6 (Int.toNat a0) zE).2.2.2.2.2.2.1 (List.getD a6 (Int.toNat a0) zE).2.2.2.2.2.2.2.1 (List.getD a6 (Int.toNat a0) zE).2.2.2.2.2.2.2.2.1 (List.getD a6 (Int.toNat a0) zE).2.2.2.2.2.2.2.2.2.1 (List.getD a6 (Int.toNat a0) zE).2.2.2.2.2.2.2.2.2.2 y3.1) fun y4 =>
 Option.bind (f95 a5 y4.1 y4.2.1) fun y5 =>
 Option.bind (f15 y5.1) fun y6 =>
 bif !y6.1 then
 some ((0,()))
 else
 Option.bind (f96 a6 y4.1 y4.2.1) fun y7 =>
 bif decide (y7.1≥0) then
 some ((0,()))
 else
 some ((y3.1,()))
 else
 none
def f220.S:FnSpec:=⟨⟨[(0,.agg [i6]),(1,wS)],[]⟩,[⟨[(0,n6)],[]⟩],[],fun(a,b,c,d,e,f,g,h,i,j,k,l,_)=>f220 a b c d e f g h i j k l⟩
theorem f220.sound:SO 220 f220.S:=so [b f71.sound,b f15.sound,b f96.sound,b f214.sound,b f95.sound,b f16.sound,b f221.sound,b f222.sound] n0 [] [] [] 0 (by kernel_rfl) fun _=>by kernel_rfl
def f111(a0 a1 a2 a3:Int)(a4:LZ)(a5:LE)(a6:LI)(a7 a8 a9 a10 a11:Int):Option (Int×Unit):=f220 a11 a0 a1 a2 a3 a4 a5 a6 a7 a8 a9 a10
def f111.S:FnSpec:=⟨mindIns,wantOuts,[],fun x=>f111 x.1 x.2.1 x.2.2.1 x.2.2.2.1 x.2.2.2.2.1 x.2.2.2.2.2.1 x.2.2.2.2.2.2.1 x.2.2.2.2.2.2.2.1 x.2.2.2.2.2.2.2.2.1 x.2.2.2.2.2.2.2.2.2.1 x.2.2.2.2.2.2.2.2.2.2.1 x.2.2.2.2.2.2.2.2.2.2.2.1⟩
def f111.E:Env:=⟨tis,[],[],[],[],[],0,[],1⟩
theorem f111.ask : AskParts f111.E ((Go.Proofs.Tryz.f61.body).getD .skip) "adit/minds.wants" 43 := by constructor <;> first | kernel_rfl | (unfold IsOp; kernel_rfl) | (intros; kernel_rfl)
theorem f111.parts:MindParts f111.E ((Go.Proofs.Tryz.f111.body).getD .skip) 198 61 43 158:=by constructor<;>first | kernel_rfl | (unfold IsOp;kernel_rfl) | (intros;kernel_rfl)
theorem f111.sound : Sound Go.Proofs.Tryz.prog 111 f111.S := mind_sound (fn := Go.Proofs.Tryz.f111) (E := f111.E) (c := ((Go.Proofs.Tryz.f111.body).getD .skip)) (tS := 198) (fa := 61) (tW := 43) (tF := 158) (by kernel_rfl) (by kernel_rfl) (by kernel_rfl) (by kernel_rfl) (by kernel_rfl) f111.parts ⟨tis_ok, EqsOk.nil _, FnsOk.nil⟩ rfl (by intros; kernel_rfl) (F := (fun n x => f220 n x.1 x.2.1 x.2.2.1 x.2.2.2.1 x.2.2.2.2.1 x.2.2.2.2.2.1 x.2.2.2.2.2.2.1 x.2.2.2.2.2.2.2.1 x.2.2.2.2.2.2.2.2.1 x.2.2.2.2.2.2.2.2.2.1 x.2.2.2.2.2.2.2.2.2.2.1)) (fun h _ _ _ hV hro => ask_tells (fn := Go.Proofs.Tryz.f61) (E := f111.E) (c := ((Go.Proofs.Tryz.f61.body).getD .skip)) (name := "adit/minds.wants") (tW := 43) (tS := 198) (fw := 220) (by kernel_rfl) (by kernel_rfl) (by kernel_rfl) (by kernel_rfl) (by kernel_rfl) f111.ask ⟨tis_ok, EqsOk.nil _, FnsOk.nil⟩ rfl (by intros; kernel_rfl) (F := (fun n x => f220 n x.1 x.2.1 x.2.2.1 x.2.2.2.1 x.2.2.2.2.1 x.2.2.2.2.2.1 x.2.2.2.2.2.2.1 x.2.2.2.2.2.2.2.1 x.2.2.2.2.2.2.2.2.1 x.2.2.2.2.2.2.2.2.2.1 x.2.2.2.2.2.2.2.2.2.2.1)) f220.sound h hV hro)
def f57.L1(x:Int×Int×T2):Option (T2) :=
 it (X:=Int×Int×T2) (fun rec x=>match x with
 | (v0,v1,v2,v3,v4,v5,v6,v7,v8,v9,v10,v11,v12,v13,v14,_) =>
 bif decide (v1<v0) then
 bif inRange v1 (List.length v13) then
 bif (List.getD v13 (Int.toNat v1) zE).1==0 then
 rec (v0,IntKind.wrap .i64 (v1+1),v2,v3,v4,v5,v6,v7,v8,v9,v10,v11,v12,v13,v14,())
 else
 bif (List.getD v13 (Int.toNat v1) zE).1==1 then
 rec (v0,IntKind.wrap .i64 (v1+1),v2,v3,v4,v5,v6,v7,v8,v9,v10,v11,v12,v13,v14,())
 else
 bif decide ((List.getD v13 (Int.toNat v1) zE).2.2.2.2.2.2.2.2.2.2>0) then
 rec (v0,IntKind.wrap .i64 (v1+1),v2,v3,v4,v5,v6,v7,v8,v9,v10,v11,v12,v13,v14,())
 else
 Option.bind (f111 v2 v3 v4 v5 v12 v13 v14 v6 v7 v8 v9 v1) fun y0 =>
 bif decide (y0.1≥1) then
 bif decide (y0.1≤4) then
 Option.bind (f112 v1 y0.1 v2 v3 v4 v5 v6 v7 v8 v9 v10 v11 v12 v13 v14) fun y1 =>
 rec (v0,IntKind.wrap .i64 (v1+1),y1.1,y1.2.1,y1.2.2.1,y1.2.2.2.1,y1.2.2.2.2.1,y1.2.2.2.2.2.1,y1.2.2.2.2.2.2.1,y1.2.2.2.2.2.2.2.1,y1.2.2.2.2.2.2.2.2.1,y1.2.2.2.2.2.2.2.2.2.1,y1.2.2.2.2.2.2.2.2.2.2.1,y1.2.2.2.2.2.2.2.2.2.2.2.1,y1.2.2.2.2.2.2.2.2.2.2.2.2.1,())
 else
 rec (v0,IntKind.wrap .i64 (v1+1),v2,v3,v4,v5,v6,v7,v8,v9,v10,v11,v12,v13,v14,())
 else
 rec (v0,IntKind.wrap .i64 (v1+1),v2,v3,v4,v5,v6,v7,v8,v9,v10,v11,v12,v13,v14,())
 else
 none
 else
 some ((v2,v3,v4,v5,v6,v7,v8,v9,v10,v11,v12,v13,v14,()))
 ) (100000000000000000000) (x)
def f57(a0 a1 a2 a3 a4 a5 a6 a7:Int)(a8 a9:Bool)(a10:LZ)(a11:LE)(a12:LI):Option (T2) :=
 f57.L1 ((minI (↑(List.length a11):Int) 32,0,a0,a1,a2,a3,a4,a5,a6,a7,a8,a9,a10,a11,a12,()))
def f57.S:FnSpec:=⟨⟨[(0,pt 0)],[(0,bx (.own 1) (.own 2) (.own 3)),(1,a8),(2,aE),(3,aI)]⟩,[⟨[],[(0,bx (.own 4) (.own 5) (.own 6)),(4,a8),(5,aE),(6,aI)]⟩],[0],fun(a,b,c,d,e,f,g,h,i,j,k,l,m,_)=>f57 a b c d e f g h i j k l m⟩
theorem f57.sound:SO 57 f57.S:=so [b f112.sound,b f111.sound] n0 [] [(2,⟨[(0,pt 0),(11,n6),(12,n6)],[(0,bx (.own 4) (.own 5) (.own 6)),(4,a8),(5,aE),(6,aI)]⟩)] [] 4 (by kernel_rfl) fun _=>by kernel_rfl
end
end Go.Proofs.YthdgahpomhnidaaGreat.Run
namespace Go.Proofs.YthdgahpomhnidaaGreat.Run
open Go Mx
set_option maxRecDepth 100000
set_option maxHeartbeats 4000000
noncomputable section
def f58.L1(x:T62):Option (T0) :=
 it (X:=T62) (fun rec x=>match x with
 | (v0,v1,v2,v3,v4,v5,v6,v7,v8,v9,v10,v11,v12,v13,v14,v15,v16,v17,v18,v19,v20,_) =>
 bif decide (v1<v0) then
 Option.bind (f114 v2 v3 v4 v5 v18 v19 v20 v6 v7 v8 v9 v1) fun y0 =>
 bif !y0.1 then
 rec (v0,IntKind.wrap .i64 (v1+1),v2,v3,v4,v5,v6,v7,v8,v9,v10,v11,v12,v13,v14,v15,v16,v17,v18,v19,v20,())
 else
 bif inRange v1 (List.length v19) then
 Option.bind (α:=Int×Nat×Int×Int×T38⊕T0) (
 bif decide ((List.getD v19 (Int.toNat v1) zE).2.2.2.2.2.2.2.2.2.2>0) then
 let s0:LE:=List.set v19 (Int.toNat v1) ((List.getD v19 (Int.toNat v1) zE).1,(List.getD v19 (Int.toNat v1) zE).2.1,(List.getD v19 (Int.toNat v1) zE).2.2.1,(List.getD v19 (Int.toNat v1) zE).2.2.2.1,(List.getD v19 (Int.toNat v1) zE).2.2.2.2.1,(List.getD v19 (Int.toNat v1) zE).2.2.2.2.2.1,(List.getD v19 (Int.toNat v1) zE).2.2.2.2.2.2.1,(List.getD v19 (Int.toNat v1) zE).2.2.2.2.2.2.2.1,(List.getD v19 (Int.toNat v1) zE).2.2.2.2.2.2.2.2.1,(List.getD v19 (Int.toNat v1) zE).2.2.2.2.2.2.2.2.2.1,IntKind.wrap .i64 ((List.getD v19 (Int.toNat v1) zE).2.2.2.2.2.2.2.2.2.2-1))
 some (Sum.inl (v1,Int.toNat v1,v0,v1,v2,v3,v4,v5,v6,v7,v8,v9,v10,v11,v12,v13,v14,v15,v16,v17,s0,v18,v20,()))
 else
 some (Sum.inl (v1,Int.toNat v1,v0,v1,v2,v3,v4,v5,v6,v7,v8,v9,v10,v11,v12,v13,v14,v15,v16,v17,v19,v18,v20,()))
 ) fun y1 =>
 Sum.elim (fun y2=>match y2 with
 | (u2_0,u2_1,u2_2,u2_3,u2_4,u2_5,u2_6,u2_7,u2_8,u2_9,u2_10,u2_11,u2_12,u2_13,u2_14,u2_15,u2_16,u2_17,u2_18,u2_19,u2_20,u2_21,u2_22,_) =>
 bif decide ((List.getD u2_20 u2_1 zE).2.2.2.2.2.2.2.2.2.1>0) then
 let s0:LE:=List.set u2_20 u2_1 ((List.getD u2_20 u2_1 zE).1,(List.getD u2_20 u2_1 zE).2.1,(List.getD u2_20 u2_1 zE).2.2.1,(List.getD u2_20 u2_1 zE).2.2.2.1,(List.getD u2_20 u2_1 zE).2.2.2.2.1,(List.getD u2_20 u2_1 zE).2.2.2.2.2.1,(List.getD u2_20 u2_1 zE).2.2.2.2.2.2.1,(List.getD u2_20 u2_1 zE).2.2.2.2.2.2.2.1,(List.getD u2_20 u2_1 zE).2.2.2.2.2.2.2.2.1,IntKind.wrap .i64 ((List.getD u2_20 u2_1 zE).2.2.2.2.2.2.2.2.2.1-1),(List.getD u2_20 u2_1 zE).2.2.2.2.2.2.2.2.2.2)
 Option.bind (f115 u2_4 u2_5 u2_6 u2_7 u2_21 s0 u2_22 u2_8 u2_9 u2_10 u2_11 u2_0 1) fun y3 =>
 rec (u2_2,IntKind.wrap .i64 (u2_3+1),y3.1,y3.2.1,y3.2.2.1,y3.2.2.2.1,y3.2.2.2.2.1,y3.2.2.2.2.2.1,y3.2.2.2.2.2.2.1,y3.2.2.2.2.2.2.2.1,u2_12,u2_13,u2_14,u2_15,u2_16,u2_17,u2_18,u2_19,y3.2.2.2.2.2.2.2.2.1,y3.2.2.2.2.2.2.2.2.2.1,y3.2.2.2.2.2.2.2.2.2.2.1,())
 else
 rec (u2_2,IntKind.wrap .i64 (u2_3+1),u2_4,u2_5,u2_6,u2_7,u2_8,u2_9,u2_10,u2_11,u2_12,u2_13,u2_14,u2_15,u2_16,u2_17,u2_18,u2_19,u2_21,u2_20,u2_22,())
 ) (fun z4 =>
 some (z4)
 ) (y1)
 else
 none
 else
 some ((v2,v3,v4,v5,v6,v7,v8,v9,v18,v19,v20,()))
 ) (100000000000000000000) (x)
def f58(a0 a1 a2 a3:Int)(a4:LZ)(a5:LE)(a6:LI)(a7 a8 a9 a10:Int):Option (T0) :=
 Option.bind (f113 a0 a1 a2 a3 a4 a5 a6 a7 a8 a9 a10) fun y0 =>
 bif decide ((0:Int)≤0∧0≤minI (↑(List.length y0.2.2.2.2.2.2.2.2.2.1):Int) 32∧minI (↑(List.length y0.2.2.2.2.2.2.2.2.2.1):Int) 32≤(↑(List.length y0.2.2.2.2.2.2.2.2.2.1):Int)) then
 f58.L1 (((↑(Int.toNat (minI (↑(List.length y0.2.2.2.2.2.2.2.2.2.1):Int) 32)-0):Int),0,y0.1,y0.2.1,y0.2.2.1,y0.2.2.2.1,y0.2.2.2.2.1,y0.2.2.2.2.2.1,y0.2.2.2.2.2.2.1,y0.2.2.2.2.2.2.2.1,0,0,0,0,0,0,0,0,y0.2.2.2.2.2.2.2.2.1,y0.2.2.2.2.2.2.2.2.2.1,y0.2.2.2.2.2.2.2.2.2.2.1,()))
 else
 none
def f58.S:FnSpec:=⟨⟨[(0,wS)],[]⟩,[⟨[(0,aw (.own 0) (.own 1) (.own 2))],[(0,a8),(1,aE),(2,aI)]⟩],[],fun(a,b,c,d,e,f,g,h,i,j,k,_)=>f58 a b c d e f g h i j k⟩
theorem f58.sound:SO 58 f58.S:=so [b f114.sound,b f113.sound,b f115.sound] n0 [(10,⟨[(1,pt 0),(2,pt 1),(3,n6),(4,.c (.eptr 2 0)),(14,n6),(15,n6)],[(0,bw (.own 3) (.own 2) (.own 4)),(1,bw .nils .nils .nils),(2,aE),(3,a8),(4,aI)]⟩)] [(4,⟨[(1,pt 0),(2,pt 1),(14,n6),(15,n6)],[(0,bw (.own 2) (.own 3) (.own 4)),(1,bw .nils .nils .nils),(2,a8),(3,aE),(4,aI)]⟩)] [] 0 (by kernel_rfl) fun _=>by kernel_rfl
def f59(a0 a1 a2 a3 a4 a5 a6 a7:Int)(a8 a9:Bool)(a10:LZ)(a11:LE)(a12:LI):Option (T28) :=
 Option.bind (f108 ((a0,a1,a2,a3,a10,a11,a12,a4,a5,a6,a7),a8,a9)) fun y0 =>
 bif Int.tmod a1 16 !=0 then
 some ((a0,a1,a2,a3,a4,a5,a6,a7,a8,a9,a10,a12,a11,()))
 else
 bif !y0.2.2.1 then
 some ((a0,a1,a2,a3,a4,a5,a6,a7,a8,a9,a10,a12,a11,()))
 else
 Option.bind (f96 a11 y0.1 y0.2.1) fun y1 =>
 bif decide (y1.1≥0) then
 some ((a0,a1,a2,a3,a4,a5,a6,a7,a8,a9,a10,a12,a11,()))
 else
 Option.bind (f75 2) fun y2 =>
 Option.bind (f101 y2.1 y2.2.1 y2.2.2.1 y0.1 y0.2.1 y2.2.2.2.2.2.1 y2.2.2.2.2.2.2.1 y2.2.2.2.2.2.2.2.1 y2.2.2.2.2.2.2.2.2.1 y2.2.2.2.2.2.2.2.2.2.1 y2.2.2.2.2.2.2.2.2.2.2.1 a0 a1 a2 a3 a4 a5 a6 a7 a8 a9 a10 a11 a12) fun y3 =>
 some ((y3.1,y3.2.1,y3.2.2.1,y3.2.2.2.1,y3.2.2.2.2.1,y3.2.2.2.2.2.1,y3.2.2.2.2.2.2.1,y3.2.2.2.2.2.2.2.1,y3.2.2.2.2.2.2.2.2.1,y3.2.2.2.2.2.2.2.2.2.1,y3.2.2.2.2.2.2.2.2.2.2.1,y3.2.2.2.2.2.2.2.2.2.2.2.1,y3.2.2.2.2.2.2.2.2.2.2.2.2.1,()))
def f59.S:FnSpec:=⟨⟨[(0,pt 0)],[(0,bx (.own 1) (.own 2) (.own 3)),(1,a8),(2,aE),(3,aI)]⟩,[⟨[],[(0,bx (.own 1) (.own 4) (.own 3)),(1,a8),(3,aI),(4,aE)]⟩],[0,1,3],fun(a,b,c,d,e,f,g,h,i,j,k,l,m,_)=>f59 a b c d e f g h i j k l m⟩
theorem f59.sound:SO 59 f59.S:=so [b f75.sound,b f108.sound,b f96.sound,b f101.sound] n0 [] [] [] 4 (by kernel_rfl) fun _=>by kernel_rfl
def f52_1.L1(x:T44):Option (T55) :=
 it (X:=T44) (fun rec x=>match x with
 | (v0,v1,v2,v3,v4,v5,v6,v7,v8,v9,v10,v11,v12,v13,v14,v15,v16,v17,_) =>
 bif decide (v1<v0) then
 bif inRange v1 (List.length v14) then
 Option.bind (f96 v16 (List.getD v14 (Int.toNat v1) zE).2.2.2.1 (List.getD v14 (Int.toNat v1) zE).2.2.2.2.1) fun y0 =>
 bif decide (y0.1<0) then
 Option.bind (f101 (List.getD v14 (Int.toNat v1) zE).1 (List.getD v14 (Int.toNat v1) zE).2.1 (List.getD v14 (Int.toNat v1) zE).2.2.1 (List.getD v14 (Int.toNat v1) zE).2.2.2.1 (List.getD v14 (Int.toNat v1) zE).2.2.2.2.1 (List.getD v14 (Int.toNat v1) zE).2.2.2.2.2.1 (List.getD v14 (Int.toNat v1) zE).2.2.2.2.2.2.1 (List.getD v14 (Int.toNat v1) zE).2.2.2.2.2.2.2.1 (List.getD v14 (Int.toNat v1) zE).2.2.2.2.2.2.2.2.1 (List.getD v14 (Int.toNat v1) zE).2.2.2.2.2.2.2.2.2.1 (List.getD v14 (Int.toNat v1) zE).2.2.2.2.2.2.2.2.2.2 v2 v3 v4 v5 v6 v7 v8 v9 v10 v11 v15 v16 v13) fun y1 =>
 rec (v0,IntKind.wrap .i64 (v1+1),y1.1,y1.2.1,y1.2.2.1,y1.2.2.2.1,y1.2.2.2.2.1,y1.2.2.2.2.2.1,y1.2.2.2.2.2.2.1,y1.2.2.2.2.2.2.2.1,y1.2.2.2.2.2.2.2.2.1,y1.2.2.2.2.2.2.2.2.2.1,v12,y1.2.2.2.2.2.2.2.2.2.2.2.1,v14,y1.2.2.2.2.2.2.2.2.2.2.1,y1.2.2.2.2.2.2.2.2.2.2.2.2.1,v17,())
 else
 rec (v0,IntKind.wrap .i64 (v1+1),v2,v3,v4,v5,v6,v7,v8,v9,v10,v11,v12,v13,v14,v15,v16,v17,())
 else
 none
 else
 Option.bind (f102 v13 v17) fun y2 =>
 some ((v2,v3,v4,v5,v6,v7,v8,v9,v10,v11,v12,v13,v15,v16,y2.1,()))
 ) (100000000000000000000) (x)
def f52_1(a0 a1 a2 a3 a4 a5 a6 a7:Int)(a8 a9:Bool)(a10:LZ)(a11:LE)(a12:LI):Option (T55) :=
 Option.bind (f11 a0 a2) fun y0 =>
 Option.bind (f100 a0 a1 a2 a3 a4 a5 a6 a7 a8 a9 y0.2.1 a11 a12) fun y1 =>
 f52_1.L1 (((↑(List.length y0.2.2.1):Int),0,y1.1,y1.2.1,y1.2.2.1,y1.2.2.2.1,y1.2.2.2.2.1,y1.2.2.2.2.2.1,y1.2.2.2.2.2.2.1,y1.2.2.2.2.2.2.2.1,y1.2.2.2.2.2.2.2.2.1,y1.2.2.2.2.2.2.2.2.2.1,a10,y1.2.2.2.2.2.2.2.2.2.2.2.2.1,y0.2.2.1,y1.2.2.2.2.2.2.2.2.2.2.1,y1.2.2.2.2.2.2.2.2.2.2.2.1,y0.2.2.2.1,()))
def f52_1.S:FnSpec:=⟨⟨[(0,pt 0)],[(0,bx (.own 1) (.own 2) (.own 3)),(1,a8),(2,aE),(3,aI)]⟩,[⟨[],[(0,bx (.own 4) (.own 5) (.own 6)),(1,a8),(3,aI),(4,a8),(5,aE),(6,aI)]⟩],[0,1,3],fun(a,b,c,d,e,f,g,h,i,j,k,l,m,_)=>f52_1 a b c d e f g h i j k l m⟩
theorem f52_1.sound:SO 52 f52_1.S:=so [b f11.sound,b f96.sound,b f100.sound,b f101.sound,b f102.sound] n0 [] [(5,⟨[(0,pt 0),(2,pt 4),(29,ow 5),(30,n6),(31,n6)],[(0,bx (.own 6) (.own 7) (.own 3)),(1,a8),(3,aI),(4,.box [.own 6,.own 5,.own 8]),(5,aE),(6,a8),(7,aE),(8,aI)]⟩)] [] 4 (by kernel_rfl) fun _=>by kernel_rfl
def f60.L1(x:T48):Option (T2⊕T2) :=
 it (X:=T48) (fun rec x=>match x with
 | (v0,v1,v2,v3,v4,v5,v6,v7,v8,v9,v10,v11,v12,v13,v14,v15,_) =>
 bif decide (v1<v0) then
 bif inRange v1 (List.length v12) then
 bif (List.getD v12 (Int.toNat v1) zE).1 !=0 then
 bif (List.getD v12 (Int.toNat v1) zE).1 !=1 then
 Option.bind (f116 v14 v1) fun y0 =>
 rec (v0,IntKind.wrap .i64 (v1+1),v2,v3,v4,v5,v6,v7,v8,v9,v10,v11,v12,v13,y0.1,v15,())
 else
 rec (v0,IntKind.wrap .i64 (v1+1),v2,v3,v4,v5,v6,v7,v8,v9,v10,v11,v12,v13,v14,v15,())
 else
 rec (v0,IntKind.wrap .i64 (v1+1),v2,v3,v4,v5,v6,v7,v8,v9,v10,v11,v12,v13,v14,v15,())
 else
 none
 else
 some (Sum.inl (v2,v3,v4,v5,v6,v7,v8,v9,v10,v11,v13,v14,v15,()))
 ) (100000000000000000000) (x)
def f60.L2(x:T42):Option (T2⊕T2) :=
 it (X:=T42) (fun rec x=>match x with
 | (v0,v1,v2,v3,v4,v5,v6,v7,v8,v9,v10,v11,v12,v13,v14,_) =>
 bif decide (v1<v0) then
 bif inRange v1 (List.length v12) then
 bif (List.getD v12 (Int.toNat v1) zE).1 !=0 then
 bif (List.getD v12 (Int.toNat v1) zE).1 !=1 then
 Option.bind (f116 v12 v1) fun y0 =>
 f60.L1 ((v0,IntKind.wrap .i64 (v1+1),v2,v3,v4,v5,v6,v7,v8,v9,v10,v11,v12,v13,y0.1,v14,()))
 else
 rec (v0,IntKind.wrap .i64 (v1+1),v2,v3,v4,v5,v6,v7,v8,v9,v10,v11,v12,v13,v14,())
 else
 rec (v0,IntKind.wrap .i64 (v1+1),v2,v3,v4,v5,v6,v7,v8,v9,v10,v11,v12,v13,v14,())
 else
 none
 else
 some (Sum.inl (v2,v3,v4,v5,v6,v7,v8,v9,v10,v11,v13,v12,v14,()))
 ) (100000000000000000000) (x)
def f60.L3(x:T43):Option (T2) :=
 it (X:=T43) (fun rec x=>match x with
 | (v0,v1,v2,v3,v4,v5,v6,v7,v8,v9,v10,v11,v12,v13,v14,_) =>
 bif decide (v1<v0) then
 bif inRange v1 (List.length v12) then
 bif (List.getD v12 (Int.toNat v1) (0,0,0,0)).2.1==1 then
 bif inRange v1 (List.length v12) then
 rec (v0,IntKind.wrap .i64 (v1+1),v2,v3,v4,v5,v6,v7,v8,v9,v10,v11,List.set v12 (Int.toNat v1) (0,0,0,0),v13,v14,())
 else
 none
 else
 bif (List.getD v12 (Int.toNat v1) (0,0,0,0)).2.1==4 then
 bif inRange v1 (List.length v12) then
 rec (v0,IntKind.wrap .i64 (v1+1),v2,v3,v4,v5,v6,v7,v8,v9,v10,v11,List.set v12 (Int.toNat v1) (0,0,0,0),v13,v14,())
 else
 none
 else
 rec (v0,IntKind.wrap .i64 (v1+1),v2,v3,v4,v5,v6,v7,v8,v9,v10,v11,v12,v13,v14,())
 else
 none
 else
 Option.bind (f52_1 v2 v3 v4 v5 v6 v7 v8 v9 v10 v11 v13 v14 v12) fun y0 =>
 some ((y0.1,y0.2.1,y0.2.2.1,y0.2.2.2.1,y0.2.2.2.2.1,y0.2.2.2.2.2.1,y0.2.2.2.2.2.2.1,y0.2.2.2.2.2.2.2.1,y0.2.2.2.2.2.2.2.2.1,y0.2.2.2.2.2.2.2.2.2.1,y0.2.2.2.2.2.2.2.2.2.2.2.2.1,y0.2.2.2.2.2.2.2.2.2.2.2.2.2.1,y0.2.2.2.2.2.2.2.2.2.2.2.2.2.2.1,()))
 ) (100000000000000000000) (x)
def f60(a0 a1 a2 a3 a4 a5 a6 a7:Int)(a8 a9:Bool)(a10:LZ)(a11:LE)(a12:LI):Option (T2) :=
 bif decide (a2≥3) then
 some ((a0,a1,a2,1,a4,a5,a6,a7,a8,a9,a10,a11,a12,()))
 else
 Option.bind (α:=T2⊕T2) (
 f60.L2 (((↑(List.length a11):Int),0,a0,a1,IntKind.wrap .i64 (a2+1),a3,a4,a5,a6,a7,a8,a9,a11,a10,a12,()))
 ) fun y0 =>
 Sum.elim (fun y1=>match y1 with
 | (u1_0,u1_1,u1_2,u1_3,u1_4,u1_5,u1_6,u1_7,u1_8,u1_9,u1_10,u1_11,u1_12,_) =>
 f60.L3 (((↑(List.length u1_12):Int),0,u1_0,u1_1,u1_2,u1_3,u1_4,u1_5,u1_6,u1_7,u1_8,u1_9,u1_12,u1_10,u1_11,()))
 ) (fun z2 =>
 some (z2)
 ) (y0)
def f60.S:FnSpec:=⟨⟨[(0,pt 0)],[(0,bx (.own 1) (.own 2) (.own 3)),(1,a8),(2,aE),(3,aI)]⟩,[⟨[],[(0,bx (.own 4) (.own 5) (.own 6)),(4,a8),(5,aE),(6,aI)]⟩],[0],fun(a,b,c,d,e,f,g,h,i,j,k,l,m,_)=>f60 a b c d e f g h i j k l m⟩
theorem f60.sound:SO 60 f60.S:=so [b f116.sound,b f52_1.sound] n0 [(10,⟨[(0,pt 0)],[(0,bx (.own 4) (.own 5) (.own 6)),(4,a8),(5,aE),(6,aI)]⟩)] [(5,⟨[(0,pt 0),(29,ow 4),(30,n6),(31,n6)],[(0,bx (.own 5) (.own 4) (.own 6)),(4,aE),(5,a8),(6,aI)]⟩),(5,⟨[(0,pt 0),(29,ow 4),(30,n6),(31,n6)],[(0,bx (.own 5) (.own 6) (.own 7)),(4,aE),(5,a8),(6,aE),(7,aI)]⟩),(11,⟨[(0,pt 0),(60,ow 4),(61,n6),(62,n6)],[(0,bx (.own 5) (.own 6) (.own 4)),(4,aI),(5,a8),(6,aE)]⟩)] [] 4 (by kernel_rfl) fun _=>by kernel_rfl
def f20.L1(x:T15):Option (T0) :=
 it (X:=T15) (fun rec x=>match x with
 | (v0,v1,v2,v3,v4,v5,v6,v7,v8,v9,v10,v11,v12,v13,v14,v15,v16,v17,v18,v19,v20,v21,v22,v23,v24,v25,v26,v27,v28,v29,v30,v31,v32,v33,_) =>
 Option.bind (α:=T15⊕T0) (
 bif decide (v0<4) then
 bif inRange v0 4 then
 bif List.getD [v3,v6,v9,v12] (Int.toNat v0) Bool.false then
 Option.bind (f55 v0 v21 v22 v23 v24 v25 v26 v27 v28 v29 v30 v31 v32 v33) fun y0 =>
 some (Sum.inl (v0,v1,v2,v3,v4,v5,v6,v7,v8,v9,v10,v11,v12,v13,v14,v15,v16,v17,v18,v19,v20,y0.1,y0.2.1,y0.2.2.1,y0.2.2.2.1,y0.2.2.2.2.1,y0.2.2.2.2.2.1,y0.2.2.2.2.2.2.1,y0.2.2.2.2.2.2.2.1,y0.2.2.2.2.2.2.2.2.1,y0.2.2.2.2.2.2.2.2.2.1,y0.2.2.2.2.2.2.2.2.2.2.1,y0.2.2.2.2.2.2.2.2.2.2.2.2.1,y0.2.2.2.2.2.2.2.2.2.2.2.1,()))
 else
 some (Sum.inl (v0,v1,v2,v3,v4,v5,v6,v7,v8,v9,v10,v11,v12,v13,v14,v15,v16,v17,v18,v19,v20,v21,v22,v23,v24,v25,v26,v27,v28,v29,v30,v31,v32,v33,()))
 else
 none
 else
 bif decide (v0<8) then
 bif v29 then
 bif inRange (IntKind.wrap .i64 (v0-4)) 4 then
 Option.bind (f56 (IntKind.wrap .i64 (v0-4)) (List.getD [v1,v4,v7,v10] (Int.toNat (IntKind.wrap .i64 (v0-4))) 0) (List.getD [v2,v5,v8,v11] (Int.toNat (IntKind.wrap .i64 (v0-4))) 0) (List.getD [v3,v6,v9,v12] (Int.toNat (IntKind.wrap .i64 (v0-4))) Bool.false) v21 v22 v23 v24 v25 v26 v27 v28 Bool.true v30 v31 v32 v33) fun y1 =>
 some (Sum.inl (v0,v1,v2,v3,v4,v5,v6,v7,v8,v9,v10,v11,v12,v13,v14,v15,v16,v17,v18,v19,v20,y1.1,y1.2.1,y1.2.2.1,y1.2.2.2.1,y1.2.2.2.2.1,y1.2.2.2.2.2.1,y1.2.2.2.2.2.2.1,y1.2.2.2.2.2.2.2.1,y1.2.2.2.2.2.2.2.2.1,y1.2.2.2.2.2.2.2.2.2.1,y1.2.2.2.2.2.2.2.2.2.2.1,y1.2.2.2.2.2.2.2.2.2.2.2.1,y1.2.2.2.2.2.2.2.2.2.2.2.2.1,()))
 else
 none
 else
 Option.bind (f54 ((v21,v22,v23,v24,v31,v32,v33,v25,v26,v27,v28),v29,v30)) fun y2 =>
 bif inRange (IntKind.wrap .i64 (v0-4)) 4 then
 Option.bind (f56 (IntKind.wrap .i64 (v0-4)) (List.getD [v1,v4,v7,v10] (Int.toNat (IntKind.wrap .i64 (v0-4))) 0) (List.getD [v2,v5,v8,v11] (Int.toNat (IntKind.wrap .i64 (v0-4))) 0) (List.getD [v3,v6,v9,v12] (Int.toNat (IntKind.wrap .i64 (v0-4))) Bool.false) v21 v22 v23 v24 v25 v26 v27 v28 y2.1 v30 v31 v32 v33) fun y3 =>
 some (Sum.inl (v0,v1,v2,v3,v4,v5,v6,v7,v8,v9,v10,v11,v12,v13,v14,v15,v16,v17,v18,v19,v20,y3.1,y3.2.1,y3.2.2.1,y3.2.2.2.1,y3.2.2.2.2.1,y3.2.2.2.2.2.1,y3.2.2.2.2.2.2.1,y3.2.2.2.2.2.2.2.1,y3.2.2.2.2.2.2.2.2.1,y3.2.2.2.2.2.2.2.2.2.1,y3.2.2.2.2.2.2.2.2.2.2.1,y3.2.2.2.2.2.2.2.2.2.2.2.1,y3.2.2.2.2.2.2.2.2.2.2.2.2.1,()))
 else
 none
 else
 bif v0==8 then
 Option.bind (f57 v21 v22 v23 v24 v25 v26 v27 v28 v29 v30 v31 v32 v33) fun y4 =>
 Option.bind (f58 y4.1 y4.2.1 y4.2.2.1 y4.2.2.2.1 y4.2.2.2.2.2.2.2.2.2.2.1 y4.2.2.2.2.2.2.2.2.2.2.2.1 y4.2.2.2.2.2.2.2.2.2.2.2.2.1 y4.2.2.2.2.1 y4.2.2.2.2.2.1 y4.2.2.2.2.2.2.1 y4.2.2.2.2.2.2.2.1) fun y5 =>
 Option.bind (f59 y5.1 y5.2.1 y5.2.2.1 y5.2.2.2.1 y5.2.2.2.2.1 y5.2.2.2.2.2.1 y5.2.2.2.2.2.2.1 y5.2.2.2.2.2.2.2.1 y4.2.2.2.2.2.2.2.2.1 y4.2.2.2.2.2.2.2.2.2.1 y5.2.2.2.2.2.2.2.2.1 y5.2.2.2.2.2.2.2.2.2.1 y5.2.2.2.2.2.2.2.2.2.2.1) fun y6 =>
 some (Sum.inl (v0,v1,v2,v3,v4,v5,v6,v7,v8,v9,v10,v11,v12,v13,v14,v15,v16,v17,v18,v19,v20,y6.1,y6.2.1,y6.2.2.1,y6.2.2.2.1,y6.2.2.2.2.1,y6.2.2.2.2.2.1,y6.2.2.2.2.2.2.1,y6.2.2.2.2.2.2.2.1,y6.2.2.2.2.2.2.2.2.1,y6.2.2.2.2.2.2.2.2.2.1,y6.2.2.2.2.2.2.2.2.2.2.1,y6.2.2.2.2.2.2.2.2.2.2.2.2.1,y6.2.2.2.2.2.2.2.2.2.2.2.1,()))
 else
 Option.bind (f54 ((v21,v22,v23,v24,v31,v32,v33,v25,v26,v27,v28),v29,v30)) fun y7 =>
 bif !y7.1 then
 Option.bind (α:=Int×Int×Int×Int×Int×Int×Int×Int×T2⊕T15⊕T0) (
 bif v29 then
 some (Sum.inl (v13,v14,v15,v16,v17,v18,v19,v20,v21,v22,v23,2,v25,v26,v27,v28,v29,v30,v31,v32,v33,()))
 else
 some (Sum.inl (v13,v14,v15,v16,v17,v18,v19,v20,v21,v22,v23,v24,v25,v26,v27,v28,v29,v30,v31,v32,v33,()))
 ) fun y8 =>
 Sum.elim (fun y9=>match y9 with
 | (_,_,_,_,_,_,_,_,u9_8,u9_9,u9_10,u9_11,u9_12,u9_13,u9_14,u9_15,_,_,u9_18,u9_19,u9_20,_) =>
 some (Sum.inr (u9_8,u9_9,u9_10,u9_11,u9_12,u9_13,u9_14,u9_15,u9_18,u9_19,u9_20,()))
 ) (fun z10 =>
 some (z10)
 ) (y8)
 else
 bif v30 then
 Option.bind (f60 v21 v22 v23 v24 v25 v26 v27 v28 v29 v30 v31 v32 v33) fun y11 =>
 some (Sum.inr (y11.1,y11.2.1,y11.2.2.1,y11.2.2.2.1,y11.2.2.2.2.1,y11.2.2.2.2.2.1,y11.2.2.2.2.2.2.1,y11.2.2.2.2.2.2.2.1,y11.2.2.2.2.2.2.2.2.2.2.1,y11.2.2.2.2.2.2.2.2.2.2.2.1,y11.2.2.2.2.2.2.2.2.2.2.2.2.1,()))
 else
 some (Sum.inr (v21,v22,v23,v24,v25,v26,v27,v28,v31,v32,v33,()))
 ) fun y12 =>
 Sum.elim (fun y13=>match y13 with
 | (u13_0,u13_1,u13_2,u13_3,u13_4,u13_5,u13_6,u13_7,u13_8,u13_9,u13_10,u13_11,u13_12,u13_13,u13_14,u13_15,u13_16,u13_17,u13_18,u13_19,u13_20,u13_21,u13_22,u13_23,u13_24,u13_25,u13_26,u13_27,u13_28,u13_29,u13_30,u13_31,u13_32,u13_33,_) =>
 rec (IntKind.wrap .i64 (u13_0+1),u13_1,u13_2,u13_3,u13_4,u13_5,u13_6,u13_7,u13_8,u13_9,u13_10,u13_11,u13_12,u13_13,u13_14,u13_15,u13_16,u13_17,u13_18,u13_19,u13_20,u13_21,u13_22,u13_23,u13_24,u13_25,u13_26,u13_27,u13_28,u13_29,u13_30,u13_31,u13_32,u13_33,())
 ) (fun z14 =>
 some (z14)
 ) (y12)
 ) (100000000000000000000) (x)
def f20(a0 a1 a2 a3:Int)(a4:LZ)(a5:LE)(a6:LI)(a7 a8 a9 a10 a11 a12:Int)(a13:Bool)(a14 a15:Int)(a16:Bool)(a17 a18:Int)(a19:Bool)(a20 a21:Int)(a22:Bool):Option (T0) :=
 Option.bind (f53 a0 a1 a2 a3 a4 a5 a6 a7 a8 a9 a10) fun y0 =>
 bif a3==1 then
 some ((y0.1,IntKind.wrap .i64 (y0.2.1+1),y0.2.2.1,y0.2.2.2.1,y0.2.2.2.2.1,y0.2.2.2.2.2.1,y0.2.2.2.2.2.2.1,y0.2.2.2.2.2.2.2.1,y0.2.2.2.2.2.2.2.2.1,y0.2.2.2.2.2.2.2.2.2.1,y0.2.2.2.2.2.2.2.2.2.2.1,()))
 else
 bif a3==2 then
 some ((y0.1,IntKind.wrap .i64 (y0.2.1+1),y0.2.2.1,y0.2.2.2.1,y0.2.2.2.2.1,y0.2.2.2.2.2.1,y0.2.2.2.2.2.2.1,y0.2.2.2.2.2.2.2.1,y0.2.2.2.2.2.2.2.2.1,y0.2.2.2.2.2.2.2.2.2.1,y0.2.2.2.2.2.2.2.2.2.2.1,()))
 else
 Option.bind (f54 ((y0.1,IntKind.wrap .i64 (y0.2.1+1),y0.2.2.1,y0.2.2.2.1,y0.2.2.2.2.2.2.2.2.1,y0.2.2.2.2.2.2.2.2.2.1,y0.2.2.2.2.2.2.2.2.2.2.1,y0.2.2.2.2.1,y0.2.2.2.2.2.1,y0.2.2.2.2.2.2.1,y0.2.2.2.2.2.2.2.1),Bool.false,Bool.false)) fun y1 =>
 Option.bind (α:=T15⊕T0) (
 bif a13 then
 Option.bind (f55 0 y0.1 (IntKind.wrap .i64 (y0.2.1+1)) y0.2.2.1 y0.2.2.2.1 y0.2.2.2.2.1 y0.2.2.2.2.2.1 y0.2.2.2.2.2.2.1 y0.2.2.2.2.2.2.2.1 y1.1 Bool.false y0.2.2.2.2.2.2.2.2.1 y0.2.2.2.2.2.2.2.2.2.1 y0.2.2.2.2.2.2.2.2.2.2.1) fun y22 =>
 some (Sum.inl (0,a11,a12,a13,a14,a15,a16,a17,a18,a19,a20,a21,a22,0,0,0,0,0,0,0,0,y22.1,y22.2.1,y22.2.2.1,y22.2.2.2.1,y22.2.2.2.2.1,y22.2.2.2.2.2.1,y22.2.2.2.2.2.2.1,y22.2.2.2.2.2.2.2.1,y22.2.2.2.2.2.2.2.2.1,y22.2.2.2.2.2.2.2.2.2.1,y22.2.2.2.2.2.2.2.2.2.2.1,y22.2.2.2.2.2.2.2.2.2.2.2.2.1,y22.2.2.2.2.2.2.2.2.2.2.2.1,()))
 else
 some (Sum.inl (0,a11,a12,a13,a14,a15,a16,a17,a18,a19,a20,a21,a22,0,0,0,0,0,0,0,0,y0.1,IntKind.wrap .i64 (y0.2.1+1),y0.2.2.1,y0.2.2.2.1,y0.2.2.2.2.1,y0.2.2.2.2.2.1,y0.2.2.2.2.2.2.1,y0.2.2.2.2.2.2.2.1,y1.1,Bool.false,y0.2.2.2.2.2.2.2.2.1,y0.2.2.2.2.2.2.2.2.2.1,y0.2.2.2.2.2.2.2.2.2.2.1,()))
 ) fun y2 =>
 Sum.elim (fun y3=>match y3 with
 | (u3_0,u3_1,u3_2,u3_3,u3_4,u3_5,u3_6,u3_7,u3_8,u3_9,u3_10,u3_11,u3_12,u3_13,u3_14,u3_15,u3_16,u3_17,u3_18,u3_19,u3_20,u3_21,u3_22,u3_23,u3_24,u3_25,u3_26,u3_27,u3_28,u3_29,u3_30,u3_31,u3_32,u3_33,_) =>
 f20.L1 ((IntKind.wrap .i64 (u3_0+1),u3_1,u3_2,u3_3,u3_4,u3_5,u3_6,u3_7,u3_8,u3_9,u3_10,u3_11,u3_12,u3_13,u3_14,u3_15,u3_16,u3_17,u3_18,u3_19,u3_20,u3_21,u3_22,u3_23,u3_24,u3_25,u3_26,u3_27,u3_28,u3_29,u3_30,u3_31,u3_32,u3_33,()))
 ) (fun z4 =>
 some (z4)
 ) (y2)
def f20.S:FnSpec:=⟨⟨[(0,wS),(1,.agg [i6,i6,.bool,i6,i6,.bool,i6,i6,.bool,i6,i6,.bool])],[]⟩,[⟨[(0,aw (.own 0) (.own 1) (.own 2))],[(0,a8),(1,aE),(2,aI)]⟩],[],fun(a,b,c,d,e,f,g,h,i,j,k,l,m,n,o,p,q,r,s,t,u,v,w,_)=>f20 a b c d e f g h i j k l m n o p q r s t u v w⟩
theorem f20.sound:SO 20 f20.S:=so [b f53.sound,b f54.sound,b f55.sound,b f56.sound,b f57.sound,b f58.sound,b f59.sound,b f60.sound] n0 [(22,⟨[(4,pt 0),(5,pt 1)],[(0,bw .nils .nils .nils),(1,bx (.own 2) (.own 3) (.own 4)),(2,a8),(3,aE),(4,aI)]⟩),(26,⟨[(3,pt 0),(4,pt 1),(5,pt 2),(6,n6)],[(0,.box [i6,i6,.bool,i6,i6,.bool,i6,i6,.bool,i6,i6,.bool]),(1,bw .nils .nils .nils),(2,bx (.own 3) (.own 4) (.own 5)),(3,a8),(4,aE),(5,aI)]⟩)] [] [(0,⟨[(3,pt 0),(4,pt 1),(5,pt 2),(6,n6)],[(0,.box [i6,i6,.bool,i6,i6,.bool,i6,i6,.bool,i6,i6,.bool]),(1,bw .nils .nils .nils),(2,bx (.own 3) (.own 4) (.own 5)),(3,a8),(4,aE),(5,aI)]⟩)] 0 (by kernel_rfl) fun _=>by kernel_rfl
def f49(a0 a1 a2:Int):Option (Bool×Unit) :=
 bif decide (a0≥a1) then
 some ((decide (a0≤a2),()))
 else
 some ((Bool.false,()))
def f49.S:FnSpec:=⟨⟨[(0,n6),(1,n6),(2,n6)],[]⟩,[⟨[(0,nb)],[]⟩],[],fun(a,b,c,_)=>f49 a b c⟩
theorem f49.sound:SO 49 f49.S:=so [] n0 [] [] [] 0 (by kernel_rfl) fun _=>by kernel_rfl
def f93.L1(x:LZ×T3):Option (Int×Unit) :=
 it (X:=LZ×T3) (fun rec x =>
 bif decide (x.2.2.1<(↑(List.length x.1):Int)) then
 bif inRange x.2.2.1 (List.length x.1) then
 rec (x.1,maxI x.2.1 (List.getD x.1 (Int.toNat x.2.2.1) 0),IntKind.wrap .i64 (x.2.2.1+1),())
 else
 none
 else
 some ((x.2.1,()))
 ) (100000000000000000000) (x)
def f93(a0:LZ):Option (Int×Unit) :=
 bif decide ((↑(List.length a0):Int)<1) then
 none
 else
 bif inRange 0 (List.length a0) then
 f93.L1 ((a0,List.getD a0 0 0,1,()))
 else
 none
def f93.S:FnSpec:=⟨⟨[(0,r8)],[]⟩,[⟨[(0,.c (.int .u8))],[]⟩],[],fun x=>f93 x.1⟩
theorem f93.sound:SO 93 f93.S:=so [] n0 [] [(6,⟨[(0,r8),(3,.c (.int .u8)),(4,n6)],[]⟩)] [] 0 (by kernel_rfl) fun _=>by kernel_rfl
def f94(a0 a1:LZ):Option (Int×Unit):=cntF a0 a1
def f94.S:FnSpec:=⟨cntIns,wantOuts,[],fun x=>f94 x.1 x.2.1⟩
def f94.E:Env:=⟨tis,[],[],[],[],[],0,[],1⟩
theorem f94.parts:CntParts f94.E ((Go.Proofs.Tryz.f94.body).getD .skip) 151 23 5:=by constructor<;>first | kernel_rfl | (unfold IsOp;kernel_rfl) | (intros;kernel_rfl)
theorem f94.sound:Sound Go.Proofs.Tryz.prog 94 f94.S:=count_sound (fn:=Go.Proofs.Tryz.f94) (fn2:=Go.Proofs.Tryz.f151) (f2:=151) (t:=23) (u:=5) (E:=f94.E) (c:=((Go.Proofs.Tryz.f94.body).getD .skip)) (X:=cntX ((Go.Proofs.Tryz.f94.body).getD .skip)) (Y:=cntY ((Go.Proofs.Tryz.f94.body).getD .skip)) (by kernel_rfl) (by kernel_rfl) (by kernel_rfl) (by kernel_rfl) (by kernel_rfl) (by kernel_rfl) (by kernel_rfl) (by kernel_rfl) (by kernel_rfl) (by kernel_rfl) f94.parts ⟨tis_ok,EqsOk.nil _,FnsOk.nil⟩ rfl
def f48.L1(x:Bool×Int×Int×Int×T51):Option (Int×Unit) :=
 it (X:=Bool×Int×Int×Int×T51) (fun rec x=>match x with
 | (v0,v1,v2,v3,v4,v5,v6,v7,v8,v9,v10,v11,v12,v13,v14,v15,v16,_) =>
 bif decide (v5<4) then
 bif inRange v5 4 then
 bif v0 then
 Option.bind (f49 (List.getD [v1,v2,v3,v4] (Int.toNat v5) 0) 0 999) fun y0 =>
 rec (y0.1,v1,v2,v3,v4,IntKind.wrap .i64 (v5+1),v6,v7,v8,v9,v10,v11,v12,v13,v14,v15,v16,())
 else
 rec (Bool.false,v1,v2,v3,v4,IntKind.wrap .i64 (v5+1),v6,v7,v8,v9,v10,v11,v12,v13,v14,v15,v16,())
 else
 none
 else
 bif !v0 then
 some ((1,()))
 else
 Option.bind (α:=Bool×T7⊕Int×Unit) (
 bif (↑(List.length v10):Int) !=384 then
 some (Sum.inl (Bool.true,v6,v7,v8,v9,v10,v11,v12,v13,v14,v15,v16,()))
 else
 bif (↑(List.length v11):Int) !=32 then
 some (Sum.inl (Bool.true,v6,v7,v8,v9,v10,v11,v12,v13,v14,v15,v16,()))
 else
 some (Sum.inl ((↑(List.length v12):Int) !=40,v6,v7,v8,v9,v10,v11,v12,v13,v14,v15,v16,()))
 ) fun y1 =>
 Sum.elim (fun y2 =>
 bif y2.1 then
 some ((4,()))
 else
 Option.bind (f93 y2.2.2.2.2.2.1) fun y3 =>
 bif decide (y3.1>5) then
 some ((3,()))
 else
 Option.bind (f94 y2.2.2.2.2.2.1 [3]) fun y4 =>
 bif y4.1 !=1 then
 some ((2,()))
 else
 Option.bind (f94 y2.2.2.2.2.2.1 [4]) fun y5 =>
 bif y5.1 !=1 then
 some ((2,()))
 else
 some ((0,()))
 ) (fun z6 =>
 some (z6)
 ) (y1)
 ) (100000000000000000000) (x)
def f48(a0 a1 a2 a3:Int)(a4:LZ)(a5:LE)(a6:LI)(a7 a8 a9 a10:Int):Option (Int×Unit) :=
 Option.bind (α:=Bool×T7⊕Int×Unit) (
 Option.bind (f49 a1 0 1073741823) fun y12 =>
 bif y12.1 then
 Option.bind (f49 a2 1 3) fun y13 =>
 bif y13.1 then
 Option.bind (f49 a3 0 2) fun y14 =>
 some (Sum.inl (y14.1,a0,a1,a2,a3,a4,a5,a6,a7,a8,a9,a10,()))
 else
 some (Sum.inl (Bool.false,a0,a1,a2,a3,a4,a5,a6,a7,a8,a9,a10,()))
 else
 some (Sum.inl (Bool.false,a0,a1,a2,a3,a4,a5,a6,a7,a8,a9,a10,()))
 ) fun y0 =>
 Sum.elim (fun y1=>match y1 with
 | (u1_0,u1_1,u1_2,u1_3,u1_4,u1_5,u1_6,u1_7,u1_8,u1_9,u1_10,u1_11,_) =>
 f48.L1 ((u1_0,u1_8,u1_9,u1_10,u1_11,0,u1_1,u1_2,u1_3,u1_4,u1_5,u1_6,u1_7,u1_8,u1_9,u1_10,u1_11,()))
 ) (fun z2 =>
 some (z2)
 ) (y0)
def f48.S:FnSpec:=⟨⟨[(0,wS)],[]⟩,[⟨[(0,n6)],[]⟩],[],fun(a,b,c,d,e,f,g,h,i,j,k,_)=>f48 a b c d e f g h i j k⟩
theorem f48.sound:SO 48 f48.S:=so [b f49.sound,b f93.sound,b f94.sound] n0 [(3,⟨[(1,pt 0),(3,nb)],[(0,bw q8 qE qI)]⟩),(11,⟨[(1,pt 0),(33,nb)],[(0,bw q8 qE qI)]⟩)] [(4,⟨[(1,pt 0),(3,nb),(20,.agg [i6,i6,i6,i6]),(21,n6)],[(0,bw q8 qE qI)]⟩)] [] 0 (by kernel_rfl) fun _=>by kernel_rfl
def f50(a0 a1 a2 a3:Int)(a4:LZ)(a5:LE)(a6:LI)(a7 a8 a9 a10 a11:Int):Option (Bool×Unit) :=
 bif inRange a11 (List.length a5) then
 Option.bind (f49 (List.getD a5 (Int.toNat a11) zE).2.1 0 255) fun y0 =>
 bif !y0.1 then
 some ((Bool.false,()))
 else
 bif (List.getD a5 (Int.toNat a11) zE).1==0 then
 some (((List.getD a5 (Int.toNat a11) zE).1==0&&((List.getD a5 (Int.toNat a11) zE).2.1==(List.getD a5 (Int.toNat a11) zE).2.1&&((List.getD a5 (Int.toNat a11) zE).2.2.1==0&&((List.getD a5 (Int.toNat a11) zE).2.2.2.1==0&&((List.getD a5 (Int.toNat a11) zE).2.2.2.2.1==0&&((List.getD a5 (Int.toNat a11) zE).2.2.2.2.2.1==0&&((List.getD a5 (Int.toNat a11) zE).2.2.2.2.2.2.1==0&&((List.getD a5 (Int.toNat a11) zE).2.2.2.2.2.2.2.1==0&&((List.getD a5 (Int.toNat a11) zE).2.2.2.2.2.2.2.2.1==0&&((List.getD a5 (Int.toNat a11) zE).2.2.2.2.2.2.2.2.2.1==0&&((List.getD a5 (Int.toNat a11) zE).2.2.2.2.2.2.2.2.2.2==0&&Bool.true)))))))))),()))
 else
 Option.bind (f75 (List.getD a5 (Int.toNat a11) zE).1) fun y1 =>
 Option.bind (α:=Int×Bool×T10⊕Bool×Unit) (
 Option.bind (f95 a4 (List.getD a5 (Int.toNat a11) zE).2.2.2.1 (List.getD a5 (Int.toNat a11) zE).2.2.2.2.1) fun y14 =>
 Option.bind (f15 y14.1) fun y15 =>
 bif y15.1 then
 Option.bind (f49 (List.getD a5 (Int.toNat a11) zE).2.2.2.2.2.1 1 y1.2.2.2.2.2.2.1) fun y16 =>
 bif y16.1 then
 bif (List.getD a5 (Int.toNat a11) zE).2.2.2.2.2.2.1==y1.2.2.2.2.2.2.1 then
 bif (List.getD a5 (Int.toNat a11) zE).2.2.2.2.2.2.2.1==y1.2.2.2.2.2.2.2.1 then
 some (Sum.inl (a11,(List.getD a5 (Int.toNat a11) zE).2.2.2.2.2.2.2.2.1==y1.2.2.2.2.2.2.2.2.1,a0,a1,a2,a3,a4,a5,a6,a7,a8,a9,a10,(List.getD a5 (Int.toNat a11) zE).1,(List.getD a5 (Int.toNat a11) zE).2.1,(List.getD a5 (Int.toNat a11) zE).2.2.1,(List.getD a5 (Int.toNat a11) zE).2.2.2.1,(List.getD a5 (Int.toNat a11) zE).2.2.2.2.1,(List.getD a5 (Int.toNat a11) zE).2.2.2.2.2.1,(List.getD a5 (Int.toNat a11) zE).2.2.2.2.2.2.1,(List.getD a5 (Int.toNat a11) zE).2.2.2.2.2.2.2.1,(List.getD a5 (Int.toNat a11) zE).2.2.2.2.2.2.2.2.1,(List.getD a5 (Int.toNat a11) zE).2.2.2.2.2.2.2.2.2.1,(List.getD a5 (Int.toNat a11) zE).2.2.2.2.2.2.2.2.2.2,()))
 else
 some (Sum.inl (a11,Bool.false,a0,a1,a2,a3,a4,a5,a6,a7,a8,a9,a10,(List.getD a5 (Int.toNat a11) zE).1,(List.getD a5 (Int.toNat a11) zE).2.1,(List.getD a5 (Int.toNat a11) zE).2.2.1,(List.getD a5 (Int.toNat a11) zE).2.2.2.1,(List.getD a5 (Int.toNat a11) zE).2.2.2.2.1,(List.getD a5 (Int.toNat a11) zE).2.2.2.2.2.1,(List.getD a5 (Int.toNat a11) zE).2.2.2.2.2.2.1,(List.getD a5 (Int.toNat a11) zE).2.2.2.2.2.2.2.1,(List.getD a5 (Int.toNat a11) zE).2.2.2.2.2.2.2.2.1,(List.getD a5 (Int.toNat a11) zE).2.2.2.2.2.2.2.2.2.1,(List.getD a5 (Int.toNat a11) zE).2.2.2.2.2.2.2.2.2.2,()))
 else
 some (Sum.inl (a11,Bool.false,a0,a1,a2,a3,a4,a5,a6,a7,a8,a9,a10,(List.getD a5 (Int.toNat a11) zE).1,(List.getD a5 (Int.toNat a11) zE).2.1,(List.getD a5 (Int.toNat a11) zE).2.2.1,(List.getD a5 (Int.toNat a11) zE).2.2.2.1,(List.getD a5 (Int.toNat a11) zE).2.2.2.2.1,(List.getD a5 (Int.toNat a11) zE).2.2.2.2.2.1,(List.getD a5 (Int.toNat a11) zE).2.2.2.2.2.2.1,(List.getD a5 (Int.toNat a11) zE).2.2.2.2.2.2.2.1,(List.getD a5 (Int.toNat a11) zE).2.2.2.2.2.2.2.2.1,(List.getD a5 (Int.toNat a11) zE).2.2.2.2.2.2.2.2.2.1,(List.getD a5 (Int.toNat a11) zE).2.2.2.2.2.2.2.2.2.2,()))
 else
 some (Sum.inl (a11,Bool.false,a0,a1,a2,a3,a4,a5,a6,a7,a8,a9,a10,(List.getD a5 (Int.toNat a11) zE).1,(List.getD a5 (Int.toNat a11) zE).2.1,(List.getD a5 (Int.toNat a11) zE).2.2.1,(List.getD a5 (Int.toNat a11) zE).2.2.2.1,(List.getD a5 (Int.toNat a11) zE).2.2.2.2.1,(List.getD a5 (Int.toNat a11) zE).2.2.2.2.2.1,(List.getD a5 (Int.toNat a11) zE).2.2.2.2.2.2.1,(List.getD a5 (Int.toNat a11) zE).2.2.2.2.2.2.2.1,(List.getD a5 (Int.toNat a11) zE).2.2.2.2.2.2.2.2.1,(List.getD a5 (Int.toNat a11) zE).2.2.2.2.2.2.2.2.2.1,(List.getD a5 (Int.toNat a11) zE).2.2.2.2.2.2.2.2.2.2,()))
 else
 some (Sum.inl (a11,Bool.false,a0,a1,a2,a3,a4,a5,a6,a7,a8,a9,a10,(List.getD a5 (Int.toNat a11) zE).1,(List.getD a5 (Int.toNat a11) zE).2.1,(List.getD a5 (Int.toNat a11) zE).2.2.1,(List.getD a5 (Int.toNat a11) zE).2.2.2.1,(List.getD a5 (Int.toNat a11) zE).2.2.2.2.1,(List.getD a5 (Int.toNat a11) zE).2.2.2.2.2.1,(List.getD a5 (Int.toNat a11) zE).2.2.2.2.2.2.1,(List.getD a5 (Int.toNat a11) zE).2.2.2.2.2.2.2.1,(List.getD a5 (Int.toNat a11) zE).2.2.2.2.2.2.2.2.1,(List.getD a5 (Int.toNat a11) zE).2.2.2.2.2.2.2.2.2.1,(List.getD a5 (Int.toNat a11) zE).2.2.2.2.2.2.2.2.2.2,()))
 ) fun y2 =>
 Sum.elim (fun y3=>match y3 with
 | (u3_0,u3_1,u3_2,u3_3,u3_4,u3_5,u3_6,u3_7,u3_8,u3_9,u3_10,u3_11,u3_12,u3_13,u3_14,u3_15,u3_16,u3_17,u3_18,u3_19,u3_20,u3_21,u3_22,u3_23,_) =>
 Option.bind (α:=Int×Bool×T10⊕Bool×Unit) (
 bif u3_1 then
 Option.bind (f49 u3_22 0 9) fun y12 =>
 bif y12.1 then
 Option.bind (f49 u3_23 0 9) fun y13 =>
 some (Sum.inl (u3_0,y13.1,u3_2,u3_3,u3_4,u3_5,u3_6,u3_7,u3_8,u3_9,u3_10,u3_11,u3_12,u3_13,u3_14,u3_15,u3_16,u3_17,u3_18,u3_19,u3_20,u3_21,u3_22,u3_23,()))
 else
 some (Sum.inl (u3_0,Bool.false,u3_2,u3_3,u3_4,u3_5,u3_6,u3_7,u3_8,u3_9,u3_10,u3_11,u3_12,u3_13,u3_14,u3_15,u3_16,u3_17,u3_18,u3_19,u3_20,u3_21,u3_22,u3_23,()))
 else
 some (Sum.inl (u3_0,Bool.false,u3_2,u3_3,u3_4,u3_5,u3_6,u3_7,u3_8,u3_9,u3_10,u3_11,u3_12,u3_13,u3_14,u3_15,u3_16,u3_17,u3_18,u3_19,u3_20,u3_21,u3_22,u3_23,()))
 ) fun y5 =>
 Sum.elim (fun y6=>match y6 with
 | (u6_0,u6_1,_,_,_,_,_,u6_7,_,_,_,_,_,u6_13,_,u6_15,u6_16,u6_17,_,_,_,_,_,_,_) =>
 bif u6_13==1 then
 bif u6_1 then
 Option.bind (f49 u6_15 0 3) fun y8 =>
 bif y8.1 then
 Option.bind (f96 u6_7 u6_16 u6_17) fun y9 =>
 bif y9.1==u6_0 then
 Option.bind (f97 u6_7 u6_15) fun y10 =>
 some ((y10.1==u6_0,()))
 else
 some ((Bool.false,()))
 else
 some ((Bool.false,()))
 else
 some ((Bool.false,()))
 else
 bif u6_1 then
 bif u6_15==0 then
 Option.bind (f96 u6_7 u6_16 u6_17) fun y11 =>
 some ((y11.1==u6_0,()))
 else
 some ((Bool.false,()))
 else
 some ((Bool.false,()))
 ) (fun z7 =>
 some (z7)
 ) (y5)
 ) (fun z4 =>
 some (z4)
 ) (y2)
 else
 none
def f50.S:FnSpec:=⟨⟨[(0,wS),(1,n6)],[]⟩,[⟨[(0,nb)],[]⟩],[],fun(a,b,c,d,e,f,g,h,i,j,k,l,_)=>f50 a b c d e f g h i j k l⟩
theorem f50.sound:SO 50 f50.S:=so [b f15.sound,b f75.sound,b f97.sound,b f96.sound,b f95.sound,b f49.sound] (EqsOk.cons eq45 n0) [(9,⟨[(1,n6),(2,pt 0),(5,pt 1),(7,nb)],[(0,bw q8 qE qI),(1,bz)]⟩),(10,⟨[(1,n6),(2,pt 0),(5,pt 1),(7,nb)],[(0,bw q8 qE qI),(1,bz)]⟩)] [] [] 0 (by kernel_rfl) fun _=>by kernel_rfl
def f98(a0 a1 a2 a3:Int):Option (T21) :=
 some ((0,a1,a2,a3,()))
def f98.S:FnSpec:=⟨⟨[(0,.agg [i6,i6,i6,i6])],[]⟩,[⟨[(0,.agg [i6,i6,i6,i6])],[]⟩],[],fun(a,b,c,d,_)=>f98 a b c d⟩
theorem f98.sound:SO 98 f98.S:=so [] n0 [] [] [] 0 (by kernel_rfl) fun _=>by kernel_rfl
def f99(a0 a1 a2 a3:Int)(a4:LZ)(a5:LE)(a6:LI)(a7 a8 a9 a10 a11 a12 a13 a14:Int):Option (Bool×Unit) :=
 Option.bind (α:=Bool×Int×Int×Int×Int×LZ×LE×LI×Int×Int×Int×Int×T21⊕Bool×Unit) (
 bif decide (a11≥1) then
 some (Sum.inl (decide (a11≤3),a0,a1,a2,a3,a4,a5,a6,a7,a8,a9,a10,a11,a12,a13,a14,()))
 else
 some (Sum.inl (Bool.false,a0,a1,a2,a3,a4,a5,a6,a7,a8,a9,a10,a11,a12,a13,a14,()))
 ) fun y0 =>
 Sum.elim (fun y1=>match y1 with
 | (u1_0,_,_,_,_,u1_5,_,_,_,_,_,_,u1_12,u1_13,u1_14,u1_15,_) =>
 Option.bind (α:=Bool×T21⊕Bool×Unit) (
 bif u1_13==1 then
 bif u1_0 then
 Option.bind (f95 u1_5 u1_14 u1_15) fun y6 =>
 Option.bind (f15 y6.1) fun y7 =>
 some (Sum.inr (y7.1,()))
 else
 bif u1_12==4 then
 Option.bind (f95 u1_5 u1_14 u1_15) fun y8 =>
 Option.bind (f15 y8.1) fun y9 =>
 some (Sum.inr (y9.1,()))
 else
 some (Sum.inr (Bool.false,()))
 else
 bif u1_13==4 then
 bif u1_0 then
 bif decide (u1_14≥0) then
 bif decide (u1_14<3) then
 some (Sum.inr (u1_15==0,()))
 else
 some (Sum.inr (Bool.false,()))
 else
 some (Sum.inr (Bool.false,()))
 else
 some (Sum.inr (Bool.false,()))
 else
 bif u1_13==2 then
 bif u1_0 then
 bif decide (u1_15≥0) then
 some (Sum.inl (decide (u1_15<4),u1_12,u1_13,u1_14,u1_15,()))
 else
 some (Sum.inl (Bool.false,u1_12,u1_13,u1_14,u1_15,()))
 else
 some (Sum.inl (Bool.false,u1_12,u1_13,u1_14,u1_15,()))
 else
 bif u1_13==3 then
 some (Sum.inl (u1_0,u1_12,u1_13,u1_14,u1_15,()))
 else
 some (Sum.inr (Bool.false,()))
 ) fun y3 =>
 Sum.elim (fun y4 =>
 bif y4.1 then
 bif decide (y4.2.2.2.1≥0) then
 bif decide (y4.2.2.2.1<4) then
 bif y4.2.2.1==2 then
 some ((Bool.true,()))
 else
 bif y4.2.1==IntKind.wrap .i64 (2+y4.2.2.2.2.1) then
 some ((decide (y4.2.2.2.2.1≥0),()))
 else
 some ((Bool.false,()))
 else
 some ((Bool.false,()))
 else
 some ((Bool.false,()))
 else
 some ((Bool.false,()))
 ) (fun z5 =>
 some (z5)
 ) (y3)
 ) (fun z2 =>
 some (z2)
 ) (y0)
def f99.S:FnSpec:=⟨⟨[(0,wS),(1,.agg [i6,i6,i6,i6])],[]⟩,[⟨[(0,nb)],[]⟩],[],fun(a,b,c,d,e,f,g,h,i,j,k,l,m,n,o,_)=>f99 a b c d e f g h i j k l m n o⟩
theorem f99.sound:SO 99 f99.S:=so [b f15.sound,b f95.sound] n0 [(3,⟨[(2,pt 0),(3,pt 1),(5,nb)],[(0,bw q8 qE qI),(1,.box [i6,i6,i6,i6])]⟩),(11,⟨[(3,pt 0),(5,nb)],[(0,.box [i6,i6,i6,i6])]⟩)] [] [] 0 (by kernel_rfl) fun _=>by kernel_rfl
def f51(a0 a1 a2 a3:Int)(a4:LZ)(a5:LE)(a6:LI)(a7 a8 a9 a10:Int):Option (Bool×Unit):=chkF (fun y=>f98 y.1 y.2.1 y.2.2.1 y.2.2.2) (fun x y=>f99 x.1 x.2.1 x.2.2.1 x.2.2.2.1 x.2.2.2.2.1 x.2.2.2.2.2.1 x.2.2.2.2.2.2.1 x.2.2.2.2.2.2.2.1 x.2.2.2.2.2.2.2.2.1 x.2.2.2.2.2.2.2.2.2.1 x.2.2.2.2.2.2.2.2.2.2.1 y.1 y.2.1 y.2.2.1 y.2.2.2) (a0,a1,a2,a3,a4,a5,a6,a7,a8,a9,a10,())
def f51.S:FnSpec:=⟨chkIns,chkOuts,[],fun x=>f51 x.1 x.2.1 x.2.2.1 x.2.2.2.1 x.2.2.2.2.1 x.2.2.2.2.2.1 x.2.2.2.2.2.2.1 x.2.2.2.2.2.2.2.1 x.2.2.2.2.2.2.2.2.1 x.2.2.2.2.2.2.2.2.2.1 x.2.2.2.2.2.2.2.2.2.2.1⟩
def f51.E:Env:=⟨tis,[(98,f98.S),(99,f99.S)],[(106,k4)],[],[],[],0,[],1⟩
theorem f51.parts:ChkParts f51.E ((Go.Proofs.Tryz.f51.body).getD .skip) 140 (fun y=>f98 y.1 y.2.1 y.2.2.1 y.2.2.2) (fun x y=>f99 x.1 x.2.1 x.2.2.1 x.2.2.2.1 x.2.2.2.2.1 x.2.2.2.2.2.1 x.2.2.2.2.2.2.1 x.2.2.2.2.2.2.2.1 x.2.2.2.2.2.2.2.2.1 x.2.2.2.2.2.2.2.2.2.1 x.2.2.2.2.2.2.2.2.2.2.1 y.1 y.2.1 y.2.2.1 y.2.2.2):=by constructor<;>first | kernel_rfl | (unfold IsOp;kernel_rfl) | (intros;kernel_rfl)
theorem f51.sound:Sound Go.Proofs.Tryz.prog 51 f51.S:=chk_sound (fn:=Go.Proofs.Tryz.f51) (E:=f51.E) (c:=((Go.Proofs.Tryz.f51.body).getD .skip)) (tM:=140) (tX:=106) (tI:=3) (pl:=(fun y=>f98 y.1 y.2.1 y.2.2.1 y.2.2.2)) (my:=(fun x y=>f99 x.1 x.2.1 x.2.2.1 x.2.2.2.1 x.2.2.2.2.1 x.2.2.2.2.2.1 x.2.2.2.2.2.2.1 x.2.2.2.2.2.2.2.1 x.2.2.2.2.2.2.2.2.1 x.2.2.2.2.2.2.2.2.2.1 x.2.2.2.2.2.2.2.2.2.2.1 y.1 y.2.1 y.2.2.1 y.2.2.2)) (by kernel_rfl) (by kernel_rfl) (by kernel_rfl) (by kernel_rfl) (by kernel_rfl) f51.parts ⟨tis_ok,EqsOk.cons eq106 (EqsOk.nil _),fc f98.sound (fc f99.sound FnsOk.nil)⟩ rfl rfl (by kernel_rfl) (by kernel_rfl) eq106 (by intros;kernel_rfl) (by intros;kernel_rfl)
def f18.L1(x:LE×T51):Option (Int×Unit) :=
 it (X:=LE×T51) (fun rec x=>match x with
 | (v0,v1,v2,v3,v4,v5,v6,v7,v8,v9,v10,v11,v12,v13,_) =>
 bif decide (v2<v1) then
 bif inRange v2 (List.length v0) then
 Option.bind (f49 (List.getD v0 (Int.toNat v2) zE).1 0 4) fun y0 =>
 bif !y0.1 then
 some ((3,()))
 else
 Option.bind (f50 v3 v4 v5 v6 v7 v8 v9 v10 v11 v12 v13 v2) fun y1 =>
 bif !y1.1 then
 some ((9,()))
 else
 rec (v0,v1,IntKind.wrap .i64 (v2+1),v3,v4,v5,v6,v7,v8,v9,v10,v11,v12,v13,())
 else
 none
 else
 Option.bind (f51 v3 v4 v5 v6 v7 v8 v9 v10 v11 v12 v13) fun y2 =>
 bif !y2.1 then
 some ((9,()))
 else
 some ((0,()))
 ) (100000000000000000000) (x)
def f18(a0 a1 a2 a3:Int)(a4:LZ)(a5:LE)(a6:LI)(a7 a8 a9 a10:Int):Option (Int×Unit) :=
 Option.bind (f48 a0 a1 a2 a3 a4 a5 a6 a7 a8 a9 a10) fun y0 =>
 bif y0.1 !=0 then
 some ((y0.1,()))
 else
 f18.L1 ((a5,(↑(List.length a5):Int),0,a0,a1,a2,a3,a4,a5,a6,a7,a8,a9,a10,()))
def f18.S:FnSpec:=⟨⟨[(0,wS)],[]⟩,[⟨[(0,n6)],[]⟩],[],fun(a,b,c,d,e,f,g,h,i,j,k,_)=>f18 a b c d e f g h i j k⟩
theorem f18.sound:SO 18 f18.S:=so [b f49.sound,b f48.sound,b f50.sound,b f51.sound] n0 [] [(6,⟨[(1,pt 0),(12,rE),(13,n6),(14,n6)],[(0,bw q8 qE qI)]⟩)] [] 0 (by kernel_rfl) fun _=>by kernel_rfl
def f10.L1(x:Int×T0):Option (Bool×Unit) :=
 it (X:=Int×T0) (fun rec x=>match x with
 | (v0,v1,v2,v3,v4,v5,v6,v7,v8,v9,v10,v11,_) =>
 bif decide (v0<30) then
 Option.bind (f20 v1 v2 v3 v4 v9 v10 v11 v5 v6 v7 v8 (if 0=0/3 then 2 else 0) (if 0=(0+1)/3 then 0 else 0) (if 0=(0+1+1)/3 then v0==0 else Bool.false) (if 0=(0+1+1+1)/3 then 2 else 0) (if 0=(0+1+1+1+1)/3 then 0 else 0) (if 0=(0+1+1+1+1+1)/3 then v0==0 else Bool.false) (if 0=(0+1+1+1+1+1+1)/3 then 2 else 0) (if 0=(0+1+1+1+1+1+1+1)/3 then 0 else 0) (if 0=(0+1+1+1+1+1+1+1+1)/3 then v0==0 else Bool.false) (if 0=(0+1+1+1+1+1+1+1+1+1)/3 then 2 else 0) (if 0=(0+1+1+1+1+1+1+1+1+1+1)/3 then 0 else 0) (if 0=(0+1+1+1+1+1+1+1+1+1+1+1)/3 then v0==0 else Bool.false)) fun y0 =>
 rec (IntKind.wrap .i64 (v0+1),y0.1,y0.2.1,y0.2.2.1,y0.2.2.2.1,y0.2.2.2.2.1,y0.2.2.2.2.2.1,y0.2.2.2.2.2.2.1,y0.2.2.2.2.2.2.2.1,y0.2.2.2.2.2.2.2.2.1,y0.2.2.2.2.2.2.2.2.2.1,y0.2.2.2.2.2.2.2.2.2.2.1,())
 else
 bif v2==30 then
 Option.bind (f18 v1 v2 v3 v4 v9 v10 v11 v5 v6 v7 v8) fun y1 =>
 some ((y1.1==0,()))
 else
 some ((Bool.false,()))
 ) (100000000000000000000) (x)
def f10:Option (Bool×Unit) :=
 Option.bind (f19 3) fun y0 =>
 f10.L1 ((0,y0.1,y0.2.1,y0.2.2.1,y0.2.2.2.1,y0.2.2.2.2.1,y0.2.2.2.2.2.1,y0.2.2.2.2.2.2.1,y0.2.2.2.2.2.2.2.1,y0.2.2.2.2.2.2.2.2.1,y0.2.2.2.2.2.2.2.2.2.1,y0.2.2.2.2.2.2.2.2.2.2.1,()))
def f10.S:FnSpec:=⟨⟨[],[]⟩,[⟨[(0,nb)],[]⟩],[],fun _=>f10⟩
theorem f10.sound:SO 10 f10.S:=so [b f19.sound,b f20.sound,b f18.sound] n0 [] [(4,⟨[(1,pt 0),(2,n6)],[(0,bw (.own 1) (.own 2) (.own 3)),(1,a8),(2,aE),(3,aI)]⟩)] [] 0 (by kernel_rfl) fun _=>by kernel_rfl
def f184(a0:Int):Option (Int×Unit) :=
 some ((IntKind.wrap .u64 (↑(BitVec.toNat (BitVec.ofInt (IntKind.bits IntKind.u64) (IntKind.wrap .u64 (IntKind.wrap .u64 (↑(BitVec.toNat (BitVec.ofInt (IntKind.bits IntKind.u64) (IntKind.wrap .u64 (IntKind.wrap .u64 (↑(BitVec.toNat (BitVec.ofInt (IntKind.bits IntKind.u64) a0 ^^^ BitVec.ofInt (IntKind.bits IntKind.u64) (Int.fdiv a0 (2 ^ Min.min 30 (IntKind.bits IntKind.u64))))):Int)*13787848793156543929)) ^^^ BitVec.ofInt (IntKind.bits IntKind.u64) (Int.fdiv (IntKind.wrap .u64 (IntKind.wrap .u64 (↑(BitVec.toNat (BitVec.ofInt (IntKind.bits IntKind.u64) a0 ^^^ BitVec.ofInt (IntKind.bits IntKind.u64) (Int.fdiv a0 (2 ^ Min.min 30 (IntKind.bits IntKind.u64))))):Int)*13787848793156543929)) (2 ^ Min.min 27 (IntKind.bits IntKind.u64))))):Int)*10723151780598845931)) ^^^ BitVec.ofInt (IntKind.bits IntKind.u64) (Int.fdiv (IntKind.wrap .u64 (IntKind.wrap .u64 (↑(BitVec.toNat (BitVec.ofInt (IntKind.bits IntKind.u64) (IntKind.wrap .u64 (IntKind.wrap .u64 (↑(BitVec.toNat (BitVec.ofInt (IntKind.bits IntKind.u64) a0 ^^^ BitVec.ofInt (IntKind.bits IntKind.u64) (Int.fdiv a0 (2 ^ Min.min 30 (IntKind.bits IntKind.u64))))):Int)*13787848793156543929)) ^^^ BitVec.ofInt (IntKind.bits IntKind.u64) (Int.fdiv (IntKind.wrap .u64 (IntKind.wrap .u64 (↑(BitVec.toNat (BitVec.ofInt (IntKind.bits IntKind.u64) a0 ^^^ BitVec.ofInt (IntKind.bits IntKind.u64) (Int.fdiv a0 (2 ^ Min.min 30 (IntKind.bits IntKind.u64))))):Int)*13787848793156543929)) (2 ^ Min.min 27 (IntKind.bits IntKind.u64))))):Int)*10723151780598845931)) (2 ^ Min.min 31 (IntKind.bits IntKind.u64))))):Int),()))
def f184.S:FnSpec:=⟨⟨[(0,.c (.int .u64))],[]⟩,[⟨[(0,.c (.int .u64))],[]⟩],[],fun x=>f184 x.1⟩
theorem f184.sound:SO 184 f184.S:=so [] n0 [] [] [] 0 (by kernel_rfl) fun _=>by kernel_rfl
def f169.L1(x:LZ×T3):Option (Int×Unit) :=
 it (X:=LZ×T3) (fun rec x =>
 bif decide (x.2.2.1<(↑(List.length x.1):Int)) then
 bif inRange x.2.2.1 (List.length x.1) then
 Option.bind (f184 (IntKind.wrap .u64 (IntKind.wrap .u64 (↑(BitVec.toNat (BitVec.ofInt (IntKind.bits IntKind.u64) x.2.1 ^^^ BitVec.ofInt (IntKind.bits IntKind.u64) (IntKind.wrap .u64 (List.getD x.1 (Int.toNat x.2.2.1) 0)))):Int)+11400714819323198485))) fun y0 =>
 rec (x.1,y0.1,IntKind.wrap .i64 (x.2.2.1+1),())
 else
 none
 else
 some ((x.2.1,()))
 ) (100000000000000000000) (x)
def f169(a0:Int)(a1:LZ):Option (Int×Unit) :=
 Option.bind (f184 (IntKind.wrap .u64 (IntKind.wrap .u64 a0+11400714819323198485))) fun y0 =>
 f169.L1 ((a1,y0.1,0,()))
def f169.S:FnSpec:=⟨⟨[(0,n6),(1,.c (.row (.int .i64)))],[]⟩,[⟨[(0,.c (.int .u64))],[]⟩],[],fun x=>f169 x.1 x.2.1⟩
theorem f169.sound:SO 169 f169.S:=so [b f184.sound] n0 [] [(4,⟨[(1,.c (.row (.int .i64))),(5,.c (.int .u64)),(6,n6)],[]⟩)] [] 0 (by kernel_rfl) fun _=>by kernel_rfl
def f146(a0 a1:Int)(a2:LZ):Option (Int×Unit) :=
 bif decide (a0<1) then
 some ((0,()))
 else
 Option.bind (f169 a1 a2) fun y0 =>
 bif decide (IntKind.wrap .u64 a0=0) then
 none
 else
 some ((IntKind.wrap .i64 (Int.tmod y0.1 (IntKind.wrap .u64 a0)),()))
def f146.S:FnSpec:=⟨⟨[(0,n6),(1,n6),(2,.c (.row (.int .i64)))],[]⟩,[⟨[(0,n6)],[]⟩],[],fun(a,b,c,_)=>f146 a b c⟩
theorem f146.sound:SO 146 f146.S:=so [b f169.sound] n0 [] [] [] 0 (by kernel_rfl) fun _=>by kernel_rfl
def f119(a0 a1 a2 a3 a4:Int):Option (Int×Unit) :=
 Option.bind (f146 a4 a0 [a1,a2,a3]) fun y0 =>
 some ((y0.1,()))
def f119.S:FnSpec:=⟨⟨[(0,n6),(1,n6),(2,n6),(3,n6),(4,n6)],[]⟩,[⟨[(0,n6)],[]⟩],[],fun(a,b,c,d,e,_)=>f119 a b c d e⟩
theorem f119.sound:SO 119 f119.S:=so [b f146.sound] n0 [] [] [] 0 (by kernel_rfl) fun _=>by kernel_rfl
def f120(a0 a1:Int)(a2:Bool)(a3:LZ):Option (Bool×LZ×Unit) :=
 bif inRange (IntKind.wrap .i64 (IntKind.wrap .i64 (a1*24)+a0)) (List.length a3) then
 bif List.getD a3 (Int.toNat (IntKind.wrap .i64 (IntKind.wrap .i64 (a1*24)+a0))) 0 !=0 then
 some ((a2,a3,()))
 else
 bif inRange (IntKind.wrap .i64 (IntKind.wrap .i64 (a1*24)+a0)) (List.length a3) then
 bif !a2 then
 bif inRange (IntKind.wrap .i64 (IntKind.wrap .i64 (a1*24)+a0)) (List.length (List.set a3 (Int.toNat (IntKind.wrap .i64 (IntKind.wrap .i64 (a1*24)+a0))) 1)) then
 some ((Bool.true,List.set (List.set a3 (Int.toNat (IntKind.wrap .i64 (IntKind.wrap .i64 (a1*24)+a0))) 1) (Int.toNat (IntKind.wrap .i64 (IntKind.wrap .i64 (a1*24)+a0))) 2,()))
 else
 none
 else
 some ((Bool.true,List.set a3 (Int.toNat (IntKind.wrap .i64 (IntKind.wrap .i64 (a1*24)+a0))) 1,()))
 else
 none
 else
 none
def f120.S:FnSpec:=⟨⟨[(0,ow 0),(1,n6),(2,n6),(3,nb)],[(0,a8)]⟩,[⟨[(0,nb)],[(0,a8)]⟩],[0],fun(a,b,c,d,_)=>f120 a b c d⟩
theorem f120.sound:SO 120 f120.S:=so [] n0 [] [] [] 1 (by kernel_rfl) fun _=>by kernel_rfl
def f121(a0 a1:Int):Option (Int×Unit) :=
 bif decide (a0<a1) then
 some ((IntKind.wrap .i64 (a0+1),()))
 else
 some ((IntKind.wrap .i64 (a0-1),()))
def f121.S:FnSpec:=⟨⟨[(0,n6),(1,n6)],[]⟩,[⟨[(0,n6)],[]⟩],[],fun x=>f121 x.1 x.2.1⟩
theorem f121.sound:SO 121 f121.S:=so [] n0 [] [] [] 0 (by kernel_rfl) fun _=>by kernel_rfl
def f141(a0 a1:Int):Option (Bool×Unit) :=
 bif decide (a0≥0) then
 bif decide (a0<24) then
 bif decide (a1≥0) then
 some ((decide (a1<16),()))
 else
 some ((Bool.false,()))
 else
 some ((Bool.false,()))
 else
 some ((Bool.false,()))
def f141.S:FnSpec:=⟨⟨[(0,n6),(1,n6)],[]⟩,[⟨[(0,nb)],[]⟩],[],fun x=>f141 x.1 x.2.1⟩
theorem f141.sound:SO 141 f141.S:=so [] n0 [] [] [] 0 (by kernel_rfl) fun _=>by kernel_rfl
def f86(a0:LZ)(a1 a2:Int):Option (Int×Unit) :=
 Option.bind (f141 a1 a2) fun y0 =>
 bif !y0.1 then
 some ((0,()))
 else
 bif decide (IntKind.wrap .i64 (IntKind.wrap .i64 (a2*24)+a1)≥(↑(List.length a0):Int)) then
 some ((0,()))
 else
 bif inRange (IntKind.wrap .i64 (IntKind.wrap .i64 (a2*24)+a1)) (List.length a0) then
 some ((IntKind.wrap .i64 (List.getD a0 (Int.toNat (IntKind.wrap .i64 (IntKind.wrap .i64 (a2*24)+a1))) 0),()))
 else
 none
def f86.S:FnSpec:=⟨⟨[(0,r8),(1,n6),(2,n6)],[]⟩,[⟨[(0,n6)],[]⟩],[],fun(a,b,c,_)=>f86 a b c⟩
theorem f86.sound:SO 86 f86.S:=so [b f141.sound] n0 [] [] [] 0 (by kernel_rfl) fun _=>by kernel_rfl
def f140(a0:Int):Option (Bool×Unit) :=
 bif decide (a0≥1) then
 some ((decide (a0≤5),()))
 else
 some ((Bool.false,()))
def f140.S:FnSpec:=⟨⟨[(0,n6)],[]⟩,[⟨[(0,nb)],[]⟩],[],fun x=>f140 x.1⟩
theorem f140.sound:SO 140 f140.S:=so [] n0 [] [] [] 0 (by kernel_rfl) fun _=>by kernel_rfl
def f122.L1(k0:T34→Option (LZ×Unit))(x:LZ×List Bool×Int×Int×T17):Option (LZ×Unit) :=
 it (X:=LZ×List Bool×Int×Int×T17) (fun rec x=>match x with
 | (v0,v1,v2,v3,v4,v5,v6,_) =>
 bif decide (v4<4) then
 Option.bind (α:=LZ×List Bool×Int×T53⊕LZ×Unit) (
 bif v4==0 then
 some (Sum.inl (v0,v1,v2,v3,v4,Int.tmod v3 24,IntKind.wrap .i64 (IntKind.wrap .i64 (Int.tdiv v3 24)-1),v5,v6,()))
 else
 bif v4==1 then
 some (Sum.inl (v0,v1,v2,v3,v4,IntKind.wrap .i64 (Int.tmod v3 24+1),IntKind.wrap .i64 (Int.tdiv v3 24),v5,v6,()))
 else
 bif v4==2 then
 some (Sum.inl (v0,v1,v2,v3,v4,Int.tmod v3 24,IntKind.wrap .i64 (IntKind.wrap .i64 (Int.tdiv v3 24)+1),v5,v6,()))
 else
 bif v4==3 then
 some (Sum.inl (v0,v1,v2,v3,v4,IntKind.wrap .i64 (Int.tmod v3 24-1),IntKind.wrap .i64 (Int.tdiv v3 24),v5,v6,()))
 else
 some (Sum.inl (v0,v1,v2,v3,v4,Int.tmod v3 24,IntKind.wrap .i64 (Int.tdiv v3 24),v5,v6,()))
 ) fun y0 =>
 Sum.elim (fun y1=>match y1 with
 | (u1_0,u1_1,u1_2,u1_3,u1_4,u1_5,u1_6,u1_7,u1_8,_) =>
 Option.bind (f141 u1_5 u1_6) fun y2 =>
 bif y2.1 then
 bif inRange (IntKind.wrap .i64 (IntKind.wrap .i64 (u1_6*24)+u1_5)) (List.length u1_7) then
 bif decide (List.getD u1_7 (Int.toNat (IntKind.wrap .i64 (IntKind.wrap .i64 (u1_6*24)+u1_5))) 0<0) then
 Option.bind (f86 u1_0 u1_5 u1_6) fun y3 =>
 Option.bind (f140 y3.1) fun y4 =>
 bif y4.1 then
 bif decide (IntKind.wrap .i64 (IntKind.wrap .i64 (u1_6*24)+u1_5)≥(↑(List.length u1_1):Int)) then
 bif inRange u1_3 (List.length u1_7) then
 bif inRange (IntKind.wrap .i64 (IntKind.wrap .i64 (u1_6*24)+u1_5)) (List.length u1_7) then
 bif decide (List.length u1_8+1≤limit 8) then
 let s0:LZ:=List.set u1_7 (Int.toNat (IntKind.wrap .i64 (IntKind.wrap .i64 (u1_6*24)+u1_5))) (IntKind.wrap .i64 (List.getD u1_7 (Int.toNat u1_3) 0+1))
 rec (u1_0,u1_1,u1_2,u1_3,IntKind.wrap .i64 (u1_4+1),s0,u1_8++[IntKind.wrap .i64 (IntKind.wrap .i64 (u1_6*24)+u1_5)],())
 else
 none
 else
 none
 else
 none
 else
 bif inRange (IntKind.wrap .i64 (IntKind.wrap .i64 (u1_6*24)+u1_5)) (List.length u1_1) then
 bif !List.getD u1_1 (Int.toNat (IntKind.wrap .i64 (IntKind.wrap .i64 (u1_6*24)+u1_5))) Bool.false then
 bif inRange u1_3 (List.length u1_7) then
 bif inRange (IntKind.wrap .i64 (IntKind.wrap .i64 (u1_6*24)+u1_5)) (List.length u1_7) then
 bif decide (List.length u1_8+1≤limit 8) then
 let s0:LZ:=List.set u1_7 (Int.toNat (IntKind.wrap .i64 (IntKind.wrap .i64 (u1_6*24)+u1_5))) (IntKind.wrap .i64 (List.getD u1_7 (Int.toNat u1_3) 0+1))
 rec (u1_0,u1_1,u1_2,u1_3,IntKind.wrap .i64 (u1_4+1),s0,u1_8++[IntKind.wrap .i64 (IntKind.wrap .i64 (u1_6*24)+u1_5)],())
 else
 none
 else
 none
 else
 none
 else
 rec (u1_0,u1_1,u1_2,u1_3,IntKind.wrap .i64 (u1_4+1),u1_7,u1_8,())
 else
 none
 else
 rec (u1_0,u1_1,u1_2,u1_3,IntKind.wrap .i64 (u1_4+1),u1_7,u1_8,())
 else
 rec (u1_0,u1_1,u1_2,u1_3,IntKind.wrap .i64 (u1_4+1),u1_7,u1_8,())
 else
 none
 else
 rec (u1_0,u1_1,u1_2,u1_3,IntKind.wrap .i64 (u1_4+1),u1_7,u1_8,())
 ) (fun z5 =>
 some (z5)
 ) (y0)
 else
 k0 (v0,v1,IntKind.wrap .i64 (v2+1),v5,v6,())
 ) (100000000000000000000) (x)
def f122.L2(x:T34):Option (LZ×Unit) :=
 it (X:=T34) (fun rec x =>
 bif decide (x.2.2.1<(↑(List.length x.2.2.2.2.1):Int)) then
 bif inRange x.2.2.1 (List.length x.2.2.2.2.1) then
 f122.L1 rec ((x.1,x.2.1,x.2.2.1,List.getD x.2.2.2.2.1 (Int.toNat x.2.2.1) 0,0,x.2.2.2.1,x.2.2.2.2.1,()))
 else
 none
 else
 some ((x.2.2.2.1,()))
 ) (100000000000000000000) (x)
def f122.L3(x:T34):Option (LZ×Unit) :=
 it (X:=T34) (fun rec x =>
 bif decide (x.2.2.1<384) then
 bif inRange x.2.2.1 (List.length x.2.2.2.1) then
 bif List.getD x.2.2.2.1 (Int.toNat x.2.2.1) 0==0 then
 bif decide (List.length x.2.2.2.2.1+1≤limit 8) then
 rec (x.1,x.2.1,IntKind.wrap .i64 (x.2.2.1+1),x.2.2.2.1,x.2.2.2.2.1++[x.2.2.1],())
 else
 none
 else
 rec (x.1,x.2.1,IntKind.wrap .i64 (x.2.2.1+1),x.2.2.2.1,x.2.2.2.2.1,())
 else
 none
 else
 f122.L2 ((x.1,x.2.1,0,x.2.2.2.1,x.2.2.2.2.1,()))
 ) (100000000000000000000) (x)
def f122.L4(x:T56):Option (LZ×Unit) :=
 it (X:=T56) (fun rec x =>
 bif decide (x.2.2.2.1<(↑(List.length x.2.2.1):Int)) then
 bif inRange x.2.2.2.1 (List.length x.2.2.1) then
 bif decide (List.getD x.2.2.1 (Int.toNat x.2.2.2.1) 0≥0) then
 bif decide (List.getD x.2.2.1 (Int.toNat x.2.2.2.1) 0<384) then
 Option.bind (f86 x.1 (Int.tmod (List.getD x.2.2.1 (Int.toNat x.2.2.2.1) 0) 24) (IntKind.wrap .i64 (Int.tdiv (List.getD x.2.2.1 (Int.toNat x.2.2.2.1) 0) 24))) fun y0 =>
 Option.bind (f140 y0.1) fun y1 =>
 bif y1.1 then
 bif inRange (List.getD x.2.2.1 (Int.toNat x.2.2.2.1) 0) (List.length x.2.2.2.2.1) then
 rec (x.1,x.2.1,x.2.2.1,IntKind.wrap .i64 (x.2.2.2.1+1),List.set x.2.2.2.2.1 (Int.toNat (List.getD x.2.2.1 (Int.toNat x.2.2.2.1) 0)) 0,())
 else
 none
 else
 rec (x.1,x.2.1,x.2.2.1,IntKind.wrap .i64 (x.2.2.2.1+1),x.2.2.2.2.1,())
 else
 rec (x.1,x.2.1,x.2.2.1,IntKind.wrap .i64 (x.2.2.2.1+1),x.2.2.2.2.1,())
 else
 rec (x.1,x.2.1,x.2.2.1,IntKind.wrap .i64 (x.2.2.2.1+1),x.2.2.2.2.1,())
 else
 none
 else
 f122.L3 ((x.1,x.2.1,0,x.2.2.2.2.1,[],()))
 ) (100000000000000000000) (x)
def f122.L5(x:T56):Option (LZ×Unit) :=
 it (X:=T56) (fun rec x =>
 bif decide (x.2.2.2.1<384) then
 bif inRange x.2.2.2.1 (List.length x.2.2.2.2.1) then
 rec (x.1,x.2.1,x.2.2.1,IntKind.wrap .i64 (x.2.2.2.1+1),List.set x.2.2.2.2.1 (Int.toNat x.2.2.2.1) (-1),())
 else
 none
 else
 f122.L4 ((x.1,x.2.1,x.2.2.1,0,x.2.2.2.2.1,()))
 ) (100000000000000000000) (x)
def f122(a0:LZ)(a1:List Bool)(a2:LZ):Option (LZ×Unit) :=
 f122.L5 ((a0,a1,a2,0,List.replicate 384 0,()))
def f122.S:FnSpec:=⟨⟨[(0,r8),(1,.c (.row .bool)),(2,.c (.row (.int .i64)))],[]⟩,[⟨[(0,ow 0)],[(0,.arr (.int .i64))]⟩],[],fun(a,b,c,_)=>f122 a b c⟩
theorem f122.sound:SO 122 f122.S:=so [b f141.sound,b f86.sound,b f140.sound] n0 [(36,⟨[(0,r8),(1,.c (.row .bool)),(7,ow 0),(11,ow 1),(13,n6),(14,n6),(15,n6),(16,n6),(17,n6)],[(0,.arr (.int .i64)),(1,.arr (.int .i64))]⟩)] [(4,⟨[(0,r8),(1,.c (.row .bool)),(2,.c (.row (.int .i64))),(7,ow 0),(8,n6)],[(0,.arr (.int .i64))]⟩),(8,⟨[(0,r8),(1,.c (.row .bool)),(2,.c (.row (.int .i64))),(7,ow 0),(9,n6)],[(0,.arr (.int .i64))]⟩),(15,⟨[(0,r8),(1,.c (.row .bool)),(7,ow 0),(11,ow 1),(12,n6)],[(0,.arr (.int .i64)),(1,.arr (.int .i64))]⟩),(20,⟨[(0,r8),(1,.c (.row .bool)),(7,ow 0),(11,ow 1),(13,n6)],[(0,.arr (.int .i64)),(1,.arr (.int .i64))]⟩),(24,⟨[(0,r8),(1,.c (.row .bool)),(7,ow 0),(11,ow 1),(13,n6),(14,n6),(15,n6)],[(0,.arr (.int .i64)),(1,.arr (.int .i64))]⟩)] [] 0 (by kernel_rfl) fun _=>by kernel_rfl
def f123.L1(x:LZ×LZ×Int×List Bool×T39):Option (Int×Unit) :=
 it (X:=LZ×LZ×Int×List Bool×T39) (fun rec x=>match x with
 | (v0,v1,v2,v3,v4,v5,v6,v7,v8,_) =>
 bif decide (v7<384) then
 bif inRange v7 (List.length v0) then
 bif List.getD v0 (Int.toNat v7) 0==1 then
 bif inRange v7 (List.length v1) then
 bif decide (List.getD v1 (Int.toNat v7) 0≥v2) then
 bif inRange v7 (List.length v3) then
 bif !List.getD v3 (Int.toNat v7) Bool.false then
 bif decide (List.length v8+1≤limit 8) then
 rec (v0,v1,v2,v3,v4,v5,v6,IntKind.wrap .i64 (v7+1),v8++[v7],())
 else
 none
 else
 rec (v0,v1,v2,v3,v4,v5,v6,IntKind.wrap .i64 (v7+1),v8,())
 else
 none
 else
 rec (v0,v1,v2,v3,v4,v5,v6,IntKind.wrap .i64 (v7+1),v8,())
 else
 none
 else
 rec (v0,v1,v2,v3,v4,v5,v6,IntKind.wrap .i64 (v7+1),v8,())
 else
 none
 else
 bif (↑(List.length v8):Int)==0 then
 some ((-1,()))
 else
 Option.bind (f119 v4 v5 v6 0 (↑(List.length v8):Int)) fun y0 =>
 bif inRange y0.1 (List.length v8) then
 some ((List.getD v8 (Int.toNat y0.1) 0,()))
 else
 none
 ) (100000000000000000000) (x)
def f123(a0 a1:LZ)(a2:Int)(a3:List Bool)(a4 a5 a6:Int):Option (Int×Unit) :=
 f123.L1 ((a0,a1,a2,a3,a4,a5,a6,0,[],()))
def f123.S:FnSpec:=⟨⟨[(0,r8),(1,.c (.row (.int .i64))),(2,n6),(3,.c (.row .bool)),(4,n6),(5,n6),(6,n6)],[]⟩,[⟨[(0,n6)],[]⟩],[],fun(a,b,c,d,e,f,g,_)=>f123 a b c d e f g⟩
theorem f123.sound:SO 123 f123.S:=so [b f119.sound] n0 [] [(4,⟨[(0,r8),(1,.c (.row (.int .i64))),(2,n6),(3,.c (.row .bool)),(4,n6),(5,n6),(6,n6),(15,ow 0),(16,n6)],[(0,.arr (.int .i64))]⟩)] [] 0 (by kernel_rfl) fun _=>by kernel_rfl
def f81(a0:Int):Option (T1) :=
 Option.bind (α:=Int×Int×Int×Int×T1⊕T1) (
 bif a0==1 then
 some (Sum.inl (a0,20,5,1,0,0,0,0,0,0,0,0,0,0,0,()))
 else
 bif a0==2 then
 some (Sum.inl (a0,4,2,0,0,0,0,0,0,0,0,0,0,0,0,()))
 else
 bif a0==3 then
 some (Sum.inl (a0,9,4,1,0,0,0,0,0,0,0,0,0,0,0,()))
 else
 bif a0==4 then
 some (Sum.inl (a0,6,3,0,0,0,0,0,0,0,0,0,0,0,0,()))
 else
 some (Sum.inr (0,0,0,0,0,0,0,0,0,0,0,()))
 ) fun y0 =>
 Sum.elim (fun y1 =>
 some ((y1.1,0,0,0,0,y1.2.1,y1.2.1,y1.2.2.1,y1.2.2.2.1,0,0,()))
 ) (fun z2 =>
 some (z2)
 ) (y0)
def f81.S:FnSpec:=⟨⟨[(0,n6)],[]⟩,[⟨[(0,eS)],[]⟩],[],fun x=>f81 x.1⟩
theorem f81.sound:SO 81 f81.S:=so [] n0 [(13,⟨[(0,n6),(2,pt 0),(3,n6),(4,n6),(5,n6)],[(0,bz)]⟩)] [] [] 0 (by kernel_rfl) fun _=>by kernel_rfl
def f64.L1(k0:T35→Option (T12))(x:Int×T35):Option (T12) :=
 it (X:=Int×T35) (fun rec x=>match x with
 | (v0,v1,v2,v3,v4,v5,v6,v7,v8,v9,v10,v11,v12,v13,v14,v15,v16,v17,v18,v19,v20,v21,_) =>
 bif decide (v8<IntKind.wrap .i64 (v5+v3)) then
 bif inRange (IntKind.wrap .i64 (IntKind.wrap .i64 (v7*24)+v8)) (List.length v9) then
 rec (v0,v1,v2,v3,v4,v5,v6,v7,IntKind.wrap .i64 (v8+1),List.set v9 (Int.toNat (IntKind.wrap .i64 (IntKind.wrap .i64 (v7*24)+v8))) 1,v10,v11,v12,v13,v14,v15,v16,v17,v18,v19,v20,v21,())
 else
 none
 else
 k0 (v0,v1,v2,v3,v4,v5,v6,IntKind.wrap .i64 (v7+1),v9,v10,v11,v12,v13,v14,v15,v16,v17,v18,v19,v20,v21,())
 ) (100000000000000000000) (x)
def f64.L2(k0:T20→Option (T12))(x:T35):Option (T12) :=
 it (X:=T35) (fun rec x=>match x with
 | (v0,v1,v2,v3,v4,v5,v6,v7,v8,v9,v10,v11,v12,v13,v14,v15,v16,v17,v18,v19,v20,_) =>
 bif decide (v7<IntKind.wrap .i64 (v6+v4)) then
 f64.L1 rec ((v0,v1,v2,v3,v4,v5,v6,v7,v5,v8,v9,v10,v11,v12,v13,v14,v15,v16,v17,v18,v19,v20,()))
 else
 bif inRange v2 6 then
 bif inRange v2 6 then
 k0 (v0,v1,IntKind.wrap .i64 (v2+1),v8,if Int.toNat v2=0/1 then IntKind.wrap .i64 (v5+IntKind.wrap .i64 (Int.tdiv v3 2)) else v9,if Int.toNat v2=(0+1)/1 then IntKind.wrap .i64 (v5+IntKind.wrap .i64 (Int.tdiv v3 2)) else v10,if Int.toNat v2=(0+1+1)/1 then IntKind.wrap .i64 (v5+IntKind.wrap .i64 (Int.tdiv v3 2)) else v11,if Int.toNat v2=(0+1+1+1)/1 then IntKind.wrap .i64 (v5+IntKind.wrap .i64 (Int.tdiv v3 2)) else v12,if Int.toNat v2=(0+1+1+1+1)/1 then IntKind.wrap .i64 (v5+IntKind.wrap .i64 (Int.tdiv v3 2)) else v13,if Int.toNat v2=(0+1+1+1+1+1)/1 then IntKind.wrap .i64 (v5+IntKind.wrap .i64 (Int.tdiv v3 2)) else v14,if Int.toNat v2=0/1 then IntKind.wrap .i64 (v6+IntKind.wrap .i64 (Int.tdiv v4 2)) else v15,if Int.toNat v2=(0+1)/1 then IntKind.wrap .i64 (v6+IntKind.wrap .i64 (Int.tdiv v4 2)) else v16,if Int.toNat v2=(0+1+1)/1 then IntKind.wrap .i64 (v6+IntKind.wrap .i64 (Int.tdiv v4 2)) else v17,if Int.toNat v2=(0+1+1+1)/1 then IntKind.wrap .i64 (v6+IntKind.wrap .i64 (Int.tdiv v4 2)) else v18,if Int.toNat v2=(0+1+1+1+1)/1 then IntKind.wrap .i64 (v6+IntKind.wrap .i64 (Int.tdiv v4 2)) else v19,if Int.toNat v2=(0+1+1+1+1+1)/1 then IntKind.wrap .i64 (v6+IntKind.wrap .i64 (Int.tdiv v4 2)) else v20,())
 else
 none
 else
 none
 ) (100000000000000000000) (x)
def f64.L3(k0:T20→Option (T12))(x:T27):Option (T12) :=
 it (X:=T27) (fun rec x=>match x with
 | (v0,v1,v2,v3,v4,v5,v6,v7,v8,v9,v10,v11,v12,v13,v14,v15,v16,v17,v18,v19,_) =>
 Option.bind (α:=T27⊕T12) (
 bif inRange v2 6 then
 bif v3 !=List.getD [v8,v9,v10,v11,v12,v13] (Int.toNat v2) 0 then
 some (Sum.inl (v0,v1,v2,v3,v4,v5,v6,v7,v8,v9,v10,v11,v12,v13,v14,v15,v16,v17,v18,v19,()))
 else
 bif inRange v2 6 then
 bif v4 !=List.getD [v14,v15,v16,v17,v18,v19] (Int.toNat v2) 0 then
 some (Sum.inl (v0,v1,v2,v3,v4,v5,v6,v7,v8,v9,v10,v11,v12,v13,v14,v15,v16,v17,v18,v19,()))
 else
 Option.bind (k0 (v0,v1,IntKind.wrap .i64 (v2+1),v7,v8,v9,v10,v11,v12,v13,v14,v15,v16,v17,v18,v19,())) fun y0 =>
 some (Sum.inr y0)
 else
 none
 else
 none
 ) fun y1 =>
 Sum.elim (fun y2=>match y2 with
 | (u2_0,u2_1,u2_2,u2_3,u2_4,u2_5,u2_6,u2_7,u2_8,u2_9,u2_10,u2_11,u2_12,u2_13,u2_14,u2_15,u2_16,u2_17,u2_18,u2_19,_) =>
 Option.bind (α:=T27⊕T12) (
 bif u2_6 then
 bif inRange u2_2 6 then
 bif u2_3 !=List.getD [u2_8,u2_9,u2_10,u2_11,u2_12,u2_13] (Int.toNat u2_2) 0 then
 bif inRange u2_2 6 then
 Option.bind (f121 u2_3 (List.getD [u2_8,u2_9,u2_10,u2_11,u2_12,u2_13] (Int.toNat u2_2) 0)) fun y3 =>
 some (Sum.inl (u2_0,u2_1,u2_2,y3.1,u2_4,u2_5,u2_6,u2_7,u2_8,u2_9,u2_10,u2_11,u2_12,u2_13,u2_14,u2_15,u2_16,u2_17,u2_18,u2_19,()))
 else
 none
 else
 bif !u2_6 then
 bif inRange u2_2 6 then
 bif u2_4==List.getD [u2_14,u2_15,u2_16,u2_17,u2_18,u2_19] (Int.toNat u2_2) 0 then
 bif inRange u2_2 6 then
 Option.bind (f121 u2_3 (List.getD [u2_8,u2_9,u2_10,u2_11,u2_12,u2_13] (Int.toNat u2_2) 0)) fun y4 =>
 some (Sum.inl (u2_0,u2_1,u2_2,y4.1,u2_4,u2_5,u2_6,u2_7,u2_8,u2_9,u2_10,u2_11,u2_12,u2_13,u2_14,u2_15,u2_16,u2_17,u2_18,u2_19,()))
 else
 none
 else
 bif inRange u2_2 6 then
 Option.bind (f121 u2_4 (List.getD [u2_14,u2_15,u2_16,u2_17,u2_18,u2_19] (Int.toNat u2_2) 0)) fun y5 =>
 some (Sum.inl (u2_0,u2_1,u2_2,u2_3,y5.1,u2_5,u2_6,u2_7,u2_8,u2_9,u2_10,u2_11,u2_12,u2_13,u2_14,u2_15,u2_16,u2_17,u2_18,u2_19,()))
 else
 none
 else
 none
 else
 bif inRange u2_2 6 then
 Option.bind (f121 u2_4 (List.getD [u2_14,u2_15,u2_16,u2_17,u2_18,u2_19] (Int.toNat u2_2) 0)) fun y6 =>
 some (Sum.inl (u2_0,u2_1,u2_2,u2_3,y6.1,u2_5,u2_6,u2_7,u2_8,u2_9,u2_10,u2_11,u2_12,u2_13,u2_14,u2_15,u2_16,u2_17,u2_18,u2_19,()))
 else
 none
 else
 none
 else
 bif !u2_6 then
 bif inRange u2_2 6 then
 bif u2_4==List.getD [u2_14,u2_15,u2_16,u2_17,u2_18,u2_19] (Int.toNat u2_2) 0 then
 bif inRange u2_2 6 then
 Option.bind (f121 u2_3 (List.getD [u2_8,u2_9,u2_10,u2_11,u2_12,u2_13] (Int.toNat u2_2) 0)) fun y7 =>
 some (Sum.inl (u2_0,u2_1,u2_2,y7.1,u2_4,u2_5,u2_6,u2_7,u2_8,u2_9,u2_10,u2_11,u2_12,u2_13,u2_14,u2_15,u2_16,u2_17,u2_18,u2_19,()))
 else
 none
 else
 bif inRange u2_2 6 then
 Option.bind (f121 u2_4 (List.getD [u2_14,u2_15,u2_16,u2_17,u2_18,u2_19] (Int.toNat u2_2) 0)) fun y8 =>
 some (Sum.inl (u2_0,u2_1,u2_2,u2_3,y8.1,u2_5,u2_6,u2_7,u2_8,u2_9,u2_10,u2_11,u2_12,u2_13,u2_14,u2_15,u2_16,u2_17,u2_18,u2_19,()))
 else
 none
 else
 none
 else
 bif inRange u2_2 6 then
 Option.bind (f121 u2_4 (List.getD [u2_14,u2_15,u2_16,u2_17,u2_18,u2_19] (Int.toNat u2_2) 0)) fun y9 =>
 some (Sum.inl (u2_0,u2_1,u2_2,u2_3,y9.1,u2_5,u2_6,u2_7,u2_8,u2_9,u2_10,u2_11,u2_12,u2_13,u2_14,u2_15,u2_16,u2_17,u2_18,u2_19,()))
 else
 none
 ) fun y10 =>
 Sum.elim (fun y11=>match y11 with
 | (u11_0,u11_1,u11_2,u11_3,u11_4,u11_5,u11_6,u11_7,u11_8,u11_9,u11_10,u11_11,u11_12,u11_13,u11_14,u11_15,u11_16,u11_17,u11_18,u11_19,_) =>
 Option.bind (f120 u11_3 u11_4 u11_5 u11_7) fun y12 =>
 rec (u11_0,u11_1,u11_2,u11_3,u11_4,y12.1,u11_6,y12.2.1,u11_8,u11_9,u11_10,u11_11,u11_12,u11_13,u11_14,u11_15,u11_16,u11_17,u11_18,u11_19,())
 ) (fun z13 =>
 some (z13)
 ) (y10)
 ) (fun z14 =>
 some (z14)
 ) (y1)
 ) (100000000000000000000) (x)
def f64.L4(x:Int×Int×Int×Bool×T17):Option (Int×Int×Bool×LZ×LZ×Unit⊕T12) :=
 it (X:=Int×Int×Int×Bool×T17) (fun rec x=>match x with
 | (v0,v1,v2,v3,v4,v5,v6,_) =>
 bif decide (v4<384) then
 bif !v3 then
 bif inRange v4 (List.length v5) then
 bif List.getD v5 (Int.toNat v4) 0==1 then
 bif inRange v4 (List.length v6) then
 bif inRange v2 (List.length v6) then
 bif List.getD v6 (Int.toNat v4) 0==IntKind.wrap .i64 (Int.tdiv (List.getD v6 (Int.toNat v2) 0) 2) then
 bif inRange v4 (List.length v5) then
 rec (v0,v1,v2,Bool.true,IntKind.wrap .i64 (v4+1),List.set v5 (Int.toNat v4) 5,v6,())
 else
 none
 else
 rec (v0,v1,v2,v3,IntKind.wrap .i64 (v4+1),v5,v6,())
 else
 none
 else
 none
 else
 rec (v0,v1,v2,v3,IntKind.wrap .i64 (v4+1),v5,v6,())
 else
 none
 else
 some (Sum.inl (v0,v1,v3,v5,v6,()))
 else
 some (Sum.inl (v0,v1,v3,v5,v6,()))
 ) (100000000000000000000) (x)
def f64.L5(x:T63):Option (Int×Int×Bool×T49⊕T12) :=
 it (X:=T63) (fun rec x=>match x with
 | (v0,v1,v2,v3,v4,v5,v6,v7,_) =>
 bif decide (v3≤IntKind.wrap .i64 (v1+1)) then
 Option.bind (f123 v4 v5 4 v6 v0 v1 (IntKind.wrap .i64 (7+v3))) fun y0 =>
 bif decide (y0.1<0) then
 some (Sum.inl (v0,v1,v2,v4,v5,v7,()))
 else
 bif inRange y0.1 (List.length v6) then
 Option.bind (f119 v0 v1 (IntKind.wrap .i64 (16+v3)) 1 (minI (IntKind.wrap .i64 (v1+1)) 3)) fun y1 =>
 Option.bind (f81 (IntKind.wrap .i64 (2+y1.1))) fun y2 =>
 bif decide (List.length v7+1≤limit 88) then
 rec (v0,v1,v2,IntKind.wrap .i64 (v3+1),v4,v5,List.set v6 (Int.toNat y0.1) Bool.true,v7++[(y2.1,y2.2.1,y2.2.2.1,Int.tmod y0.1 24,IntKind.wrap .i64 (Int.tdiv y0.1 24),y2.2.2.2.2.2.1,y2.2.2.2.2.2.2.1,y2.2.2.2.2.2.2.2.1,y2.2.2.2.2.2.2.2.2.1,y2.2.2.2.2.2.2.2.2.2.1,y2.2.2.2.2.2.2.2.2.2.2.1)],())
 else
 none
 else
 none
 else
 some (Sum.inl (v0,v1,v2,v4,v5,v7,()))
 ) (100000000000000000000) (x)
def f64.L6(x:Int×Int×Bool×Int×T12):Option (T12⊕T12) :=
 it (X:=Int×Int×Bool×Int×T12) (fun rec x=>match x with
 | (v0,v1,v2,v3,v4,v5,v6,_) =>
 bif decide (v3<3) then
 bif v2 then
 Option.bind (f119 v0 v1 (IntKind.wrap .i64 (50+v3)) 1 3) fun y0 =>
 bif decide (List.length v6+1≤limit 32) then
 rec (v0,v1,v2,IntKind.wrap .i64 (v3+1),v4,v5,v6++[(IntKind.wrap .i64 (1+y0.1),4,v3,0)],())
 else
 none
 else
 some (Sum.inl (v4,v5,v6,()))
 else
 some (Sum.inl (v4,v5,v6,()))
 ) (100000000000000000000) (x)
def f64.L7(x:T60):Option (T12) :=
 it (X:=T60) (fun rec x=>match x with
 | (v0,v1,v2,v3,v4,v5,v6,v7,v8,_) =>
 bif decide (v3<4) then
 Option.bind (f123 v4 v5 0 v6 v0 v1 (IntKind.wrap .i64 (40+v3))) fun y0 =>
 bif decide (y0.1<0) then
 rec (v0,v1,v2,IntKind.wrap .i64 (v3+1),v4,v5,v6,v7,v8,())
 else
 bif inRange y0.1 (List.length v6) then
 Option.bind (f119 v0 v1 (IntKind.wrap .i64 (40+v3)) 1 4) fun y1 =>
 bif decide (List.length v8+1≤limit 32) then
 rec (v0,v1,v2,IntKind.wrap .i64 (v3+1),v4,v5,List.set v6 (Int.toNat y0.1) Bool.true,v7,v8++[(IntKind.wrap .i64 (1+y1.1),1,Int.tmod y0.1 24,IntKind.wrap .i64 (Int.tdiv y0.1 24))],())
 else
 none
 else
 none
 else
 Option.bind (α:=T12⊕T12) (
 f64.L6 ((v0,v1,v2,0,v4,v7,v8,()))
 ) fun y2 =>
 Sum.elim (fun y3 =>
 some ((y3.1,y3.2.1,y3.2.2.1,()))
 ) (fun z4 =>
 some (z4)
 ) (y2)
 ) (100000000000000000000) (x)
def f64.L8(x:T53):Option (T12) :=
 it (X:=T53) (fun rec x =>
 bif decide (x.2.2.2.1<384) then
 bif inRange x.2.2.2.1 (List.length x.2.2.2.2.2.1) then
 bif inRange x.2.2.1 (List.length x.2.2.2.2.2.1) then
 bif decide (List.getD x.2.2.2.2.2.1 (Int.toNat x.2.2.2.1) 0>List.getD x.2.2.2.2.2.1 (Int.toNat x.2.2.1) 0) then
 rec (x.1,x.2.1,x.2.2.2.1,IntKind.wrap .i64 (x.2.2.2.1+1),x.2.2.2.2.1,x.2.2.2.2.2.1,())
 else
 rec (x.1,x.2.1,x.2.2.1,IntKind.wrap .i64 (x.2.2.2.1+1),x.2.2.2.2.1,x.2.2.2.2.2.1,())
 else
 none
 else
 none
 else
 bif inRange x.2.2.1 (List.length x.2.2.2.2.1) then
 Option.bind (α:=Int×Int×Bool×LZ×LZ×Unit⊕T12) (
 Option.bind (f119 x.1 x.2.1 6 0 2) fun y0 =>
 bif y0.1==0 then
 f64.L4 ((x.1,x.2.1,x.2.2.1,Bool.false,0,List.set x.2.2.2.2.1 (Int.toNat x.2.2.1) 4,x.2.2.2.2.2.1,()))
 else
 some (Sum.inl (x.1,x.2.1,Bool.false,List.set x.2.2.2.2.1 (Int.toNat x.2.2.1) 4,x.2.2.2.2.2.1,()))
 ) fun y1 =>
 Sum.elim (fun y2 =>
 Option.bind (α:=Int×Int×Bool×T49⊕T12) (
 f64.L5 ((y2.1,y2.2.1,y2.2.2.1,0,y2.2.2.2.1,y2.2.2.2.2.1,List.replicate 384 Bool.false,[],()))
 ) fun y3 =>
 Sum.elim (fun y4 =>
 f64.L7 ((y4.1,y4.2.1,y4.2.2.1,0,y4.2.2.2.1,y4.2.2.2.2.1,List.replicate 384 Bool.false,y4.2.2.2.2.2.1,[],()))
 ) (fun z5 =>
 some (z5)
 ) (y3)
 ) (fun z6 =>
 some (z6)
 ) (y1)
 else
 none
 ) (100000000000000000000) (x)
def f64.L9(x:T20):Option (T12) :=
 it (X:=T20) (fun rec x=>match x with
 | (v0,v1,v2,v3,v4,v5,v6,v7,v8,v9,v10,v11,v12,v13,v14,v15,_) =>
 bif decide (v2<6) then
 bif inRange (IntKind.wrap .i64 (v2-1)) 6 then
 bif inRange (IntKind.wrap .i64 (v2-1)) 6 then
 Option.bind (f120 (List.getD [v4,v5,v6,v7,v8,v9] (Int.toNat (IntKind.wrap .i64 (v2-1))) 0) (List.getD [v10,v11,v12,v13,v14,v15] (Int.toNat (IntKind.wrap .i64 (v2-1))) 0) Bool.false v3) fun y0 =>
 Option.bind (f119 v0 v1 v2 4 2) fun y1 =>
 f64.L3 rec ((v0,v1,v2,List.getD [v4,v5,v6,v7,v8,v9] (Int.toNat (IntKind.wrap .i64 (v2-1))) 0,List.getD [v10,v11,v12,v13,v14,v15] (Int.toNat (IntKind.wrap .i64 (v2-1))) 0,y0.1,y1.1==0,y0.2.1,v4,v5,v6,v7,v8,v9,v10,v11,v12,v13,v14,v15,()))
 else
 none
 else
 none
 else
 bif inRange (IntKind.wrap .i64 (IntKind.wrap .i64 (v10*24)+v4)) (List.length v3) then
 Option.bind (f122 (List.set v3 (Int.toNat (IntKind.wrap .i64 (IntKind.wrap .i64 (v10*24)+v4))) 3) [] [IntKind.wrap .i64 (IntKind.wrap .i64 (v10*24)+v4)]) fun y2 =>
 f64.L8 ((v0,v1,IntKind.wrap .i64 (IntKind.wrap .i64 (v10*24)+v4),0,List.set v3 (Int.toNat (IntKind.wrap .i64 (IntKind.wrap .i64 (v10*24)+v4))) 3,y2.1,()))
 else
 none
 ) (100000000000000000000) (x)
def f64.L10(x:T20):Option (T12) :=
 it (X:=T20) (fun rec x=>match x with
 | (v0,v1,v2,v3,v4,v5,v6,v7,v8,v9,v10,v11,v12,v13,v14,v15,_) =>
 bif decide (v2<6) then
 Option.bind (f119 v0 v1 v2 0 5) fun y0 =>
 Option.bind (f119 v0 v1 v2 1 4) fun y1 =>
 Option.bind (f119 v0 v1 v2 2 (IntKind.wrap .i64 (23-IntKind.wrap .i64 (3+y0.1)))) fun y2 =>
 Option.bind (f119 v0 v1 v2 3 (IntKind.wrap .i64 (15-IntKind.wrap .i64 (2+y1.1)))) fun y3 =>
 f64.L2 rec ((v0,v1,v2,IntKind.wrap .i64 (3+y0.1),IntKind.wrap .i64 (2+y1.1),IntKind.wrap .i64 (1+y2.1),IntKind.wrap .i64 (1+y3.1),IntKind.wrap .i64 (1+y3.1),v3,v4,v5,v6,v7,v8,v9,v10,v11,v12,v13,v14,v15,()))
 else
 f64.L9 ((v0,v1,1,v3,v4,v5,v6,v7,v8,v9,v10,v11,v12,v13,v14,v15,()))
 ) (100000000000000000000) (x)
def f64(a0 a1:Int):Option (T12) :=
 f64.L10 ((a0,a1,0,List.replicate 384 0,0,0,0,0,0,0,0,0,0,0,0,0,()))
def f64.S:FnSpec:=⟨⟨[(0,n6),(1,n6)],[]⟩,[⟨[(0,.agg [.own 0,.own 1,.own 2])],[(0,a8),(1,aE),(2,aI)]⟩],[],fun x=>f64 x.1 x.2.1⟩
theorem f64.sound:SO 64 f64.S:=so [b f119.sound,b f120.sound,b f121.sound,b f122.sound,b f123.sound,b f81.sound] n0 [(24,⟨[(0,n6),(1,n6),(4,pt 0),(5,ow 1),(6,pt 2),(7,pt 3),(15,n6),(16,n6),(17,n6),(18,nb),(19,nb)],[(0,.box [.nils,.nils,.nils]),(1,a8),(2,.box [i6,i6,i6,i6,i6,i6]),(3,.box [i6,i6,i6,i6,i6,i6])]⟩),(27,⟨[(0,n6),(1,n6),(4,pt 0),(5,ow 1),(6,pt 2),(7,pt 3),(15,n6),(16,n6),(17,n6),(18,nb),(19,nb)],[(0,.box [.nils,.nils,.nils]),(1,a8),(2,.box [i6,i6,i6,i6,i6,i6]),(3,.box [i6,i6,i6,i6,i6,i6])]⟩),(46,⟨[(0,n6),(1,n6),(4,pt 0),(5,ow 1),(21,ow 2),(24,nb)],[(0,.box [.nils,.nils,.nils]),(1,a8),(2,.arr (.int .i64))]⟩),(57,⟨[(0,n6),(1,n6),(4,pt 0),(5,ow 1),(21,ow 2),(24,nb),(26,pt 3)],[(0,.box [.nils,.nils,.nils]),(1,a8),(2,.arr (.int .i64)),(3,.box [.own 1,.own 4,.nils]),(4,aE)]⟩),(69,⟨[(4,pt 0),(26,pt 1)],[(0,.box [.nils,.nils,.nils]),(1,.box [.own 2,.own 3,.own 4]),(2,a8),(3,aE),(4,aI)]⟩)] [(5,⟨[(0,n6),(1,n6),(4,pt 0),(5,ow 1),(6,pt 2),(7,pt 3),(8,n6)],[(0,.box [.nils,.nils,.nils]),(1,a8),(2,.box [i6,i6,i6,i6,i6,i6]),(3,.box [i6,i6,i6,i6,i6,i6])]⟩),(10,⟨[(0,n6),(1,n6),(4,pt 0),(5,ow 1),(6,pt 2),(7,pt 3),(8,n6),(9,n6),(10,n6),(11,n6),(12,n6),(13,n6)],[(0,.box [.nils,.nils,.nils]),(1,a8),(2,.box [i6,i6,i6,i6,i6,i6]),(3,.box [i6,i6,i6,i6,i6,i6])]⟩),(13,⟨[(0,n6),(1,n6),(4,pt 0),(5,ow 1),(6,pt 2),(7,pt 3),(8,n6),(9,n6),(10,n6),(11,n6),(12,n6),(13,n6),(14,n6)],[(0,.box [.nils,.nils,.nils]),(1,a8),(2,.box [i6,i6,i6,i6,i6,i6]),(3,.box [i6,i6,i6,i6,i6,i6])]⟩),(18,⟨[(0,n6),(1,n6),(4,pt 0),(5,ow 1),(6,pt 2),(7,pt 3),(15,n6)],[(0,.box [.nils,.nils,.nils]),(1,a8),(2,.box [i6,i6,i6,i6,i6,i6]),(3,.box [i6,i6,i6,i6,i6,i6])]⟩),(23,⟨[(0,n6),(1,n6),(4,pt 0),(5,ow 1),(6,pt 2),(7,pt 3),(15,n6),(16,n6),(17,n6),(18,nb),(19,nb)],[(0,.box [.nils,.nils,.nils]),(1,a8),(2,.box [i6,i6,i6,i6,i6,i6]),(3,.box [i6,i6,i6,i6,i6,i6])]⟩),(33,⟨[(0,n6),(1,n6),(4,pt 0),(5,ow 1),(21,ow 2),(22,n6),(23,n6)],[(0,.box [.nils,.nils,.nils]),(1,a8),(2,.arr (.int .i64))]⟩),(41,⟨[(0,n6),(1,n6),(4,pt 0),(5,ow 1),(21,ow 2),(22,n6),(24,nb),(25,n6)],[(0,.box [.nils,.nils,.nils]),(1,a8),(2,.arr (.int .i64))]⟩),(49,⟨[(0,n6),(1,n6),(4,pt 0),(5,ow 1),(21,ow 2),(24,nb),(26,pt 3),(27,ow 4),(28,n6)],[(0,.box [.nils,.nils,.nils]),(1,a8),(2,.arr (.int .i64)),(3,.box [.own 1,.own 5,.nils]),(4,.arr .bool),(5,aE)]⟩),(59,⟨[(0,n6),(1,n6),(4,pt 0),(5,ow 1),(21,ow 2),(24,nb),(26,pt 3),(27,ow 4),(31,n6)],[(0,.box [.nils,.nils,.nils]),(1,a8),(2,.arr (.int .i64)),(3,.box [.own 1,.own 5,.own 6]),(4,.arr .bool),(5,aE),(6,aI)]⟩),(66,⟨[(0,n6),(1,n6),(4,pt 0),(24,nb),(26,pt 1),(33,n6)],[(0,.box [.nils,.nils,.nils]),(1,.box [.own 2,.own 3,.own 4]),(2,a8),(3,aE),(4,aI)]⟩)] [] 0 (by kernel_rfl) fun _=>by kernel_rfl
def f91.L1(x:LE×Int×T3):Option (Int×Unit) :=
 it (X:=LE×Int×T3) (fun rec x =>
 bif decide (x.2.2.2.1<(↑(List.length x.1):Int)) then
 bif inRange x.2.2.2.1 (List.length x.1) then
 bif (List.getD x.1 (Int.toNat x.2.2.2.1) zE).1 !=0 then
 bif inRange x.2.2.2.1 (List.length x.1) then
 bif (List.getD x.1 (Int.toNat x.2.2.2.1) zE).2.2.2.1==x.2.1 then
 bif inRange x.2.2.2.1 (List.length x.1) then
 bif (List.getD x.1 (Int.toNat x.2.2.2.1) zE).2.2.2.2.1==x.2.2.1 then
 some ((x.2.2.2.1,()))
 else
 rec (x.1,x.2.1,x.2.2.1,IntKind.wrap .i64 (x.2.2.2.1+1),())
 else
 none
 else
 rec (x.1,x.2.1,x.2.2.1,IntKind.wrap .i64 (x.2.2.2.1+1),())
 else
 none
 else
 rec (x.1,x.2.1,x.2.2.1,IntKind.wrap .i64 (x.2.2.2.1+1),())
 else
 none
 else
 some ((-1,()))
 ) (100000000000000000000) (x)
def f91(a0:LE)(a1 a2:Int):Option (Int×Unit) :=
 f91.L1 ((a0,a1,a2,0,()))
def f91.S:FnSpec:=⟨⟨[(0,rE),(1,n6),(2,n6)],[]⟩,[⟨[(0,n6)],[]⟩],[],fun(a,b,c,_)=>f91 a b c⟩
theorem f91.sound:SO 91 f91.S:=so [] n0 [] [(3,⟨[(0,rE),(1,n6),(2,n6),(7,n6)],[]⟩)] [] 0 (by kernel_rfl) fun _=>by kernel_rfl
def f133.L1(x:LE×Int×T1):Option (Unit⊕T61) :=
 it (X:=LE×Int×T1) (fun rec x=>match x with
 | (v0,v1,v2,v3,v4,v5,v6,v7,v8,v9,v10,v11,v12,_) =>
 bif decide (v1<(↑(List.length v0):Int)) then
 bif decide (v1<32) then
 bif inRange v1 (List.length v0) then
 bif (List.getD v0 (Int.toNat v1) zE).1==0 then
 bif decide (0+List.length v0≤limit 88) then
 bif inRange v1 (List.length v0) then
 bif inRange v1 (List.length v0) then
 let s0:LE:=List.set v0 (Int.toNat v1) (v2,Int.tmod (IntKind.wrap .i64 ((List.getD v0 (Int.toNat v1) zE).2.1+1)) 256,v4,v5,v6,v7,v8,v9,v10,v11,v12)
 some (Sum.inr (v1,0,s0,()))
 else
 none
 else
 none
 else
 none
 else
 rec (v0,IntKind.wrap .i64 (v1+1),v2,v3,v4,v5,v6,v7,v8,v9,v10,v11,v12,())
 else
 none
 else
 some (Sum.inl ())
 else
 some (Sum.inl ())
 ) (100000000000000000000) (x)
def f133(a0:LE)(a1 a2 a3 a4 a5 a6 a7 a8 a9 a10 a11:Int):Option (T61) :=
 bif decide (a1<1) then
 some ((0,3,[],()))
 else
 bif decide (a1>4) then
 some ((0,3,[],()))
 else
 Option.bind (α:=Unit⊕T61) (
 f133.L1 ((a0,0,a1,a2,a3,a4,a5,a6,a7,a8,a9,a10,a11,()))
 ) fun y0 =>
 Sum.elim (fun y1 =>
 some ((0,5,[],()))
 ) (fun z2 =>
 some (z2)
 ) (y0)
def f133.S:FnSpec:=⟨⟨[(0,rE),(1,eS)],[]⟩,[⟨[(0,ow 0),(1,n6),(2,n6)],[(0,aE)]⟩],[],fun(a,b,c,d,e,f,g,h,i,j,k,l,_)=>f133 a b c d e f g h i j k l⟩
theorem f133.sound:SO 133 f133.S:=so [] n0 [(12,⟨[],[]⟩)] [(5,⟨[(0,rE),(3,pt 0),(7,n6)],[(0,bz)]⟩)] [] 0 (by kernel_rfl) fun _=>by kernel_rfl
def f83_1(a0 a1 a2 a3 a4 a5 a6 a7 a8 a9 a10:Int)(a11:LE):Option (LE×Unit) :=
 Option.bind (f133 a11 a0 a1 a2 a3 a4 a5 a6 a7 a8 a9 a10) fun y0 =>
 bif y0.2.1 !=0 then
 some ((a11,()))
 else
 some ((y0.2.2.1,()))
def f83_1.S:FnSpec:=⟨⟨[(0,ow 0),(1,eS)],[(0,aE)]⟩,[⟨[(0,ow 1)],[(1,aE)]⟩],[],fun(a,b,c,d,e,f,g,h,i,j,k,l,_)=>f83_1 a b c d e f g h i j k l⟩
theorem f83_1.sound:SO 83 f83_1.S:=so [b f133.sound] n0 [] [] [] 1 (by kernel_rfl) fun _=>by kernel_rfl
end
end Go.Proofs.YthdgahpomhnidaaGreat.Run

import Derived.Test.YthdgahpomhnidaaGreatProg
import Derived.Test.YthdgahpomhnidaaGreatZ10
set_option linter.unusedVariables false
set_option autoImplicit false
namespace Go.Proofs.YthdgahpomhnidaaGreat.Run
open Go Mx
abbrev tE:Ty:=.prod (.int .i64) (.prod (.int .i64) (.prod (.int .i64) (.prod (.int .i64) (.prod (.int .i64) (.prod (.int .i64) (.prod (.int .i64) (.prod (.int .i64) (.prod (.int .i64) (.prod (.int .i64) (.int .i64))))))))))
abbrev tI:Ty:=.prod (.int .i64) (.prod (.int .i64) (.prod (.int .i64) (.int .i64)))
abbrev n6:AF:=.c (.int .i64)
abbrev nb:AF:=.c .bool
abbrev r8:AF:=.c (.row (.int .u8))
abbrev rE:AF:=.c (.row tE)
abbrev rI:AF:=.c (.row tI)
abbrev wS:AF:=.agg [.int .i64,.int .i64,.int .i64,.int .i64,.row (.int .u8),.row tE,.row tI,.int .i64,.int .i64,.int .i64,.int .i64]
abbrev eS:AF:=.agg [.int .i64,.int .i64,.int .i64,.int .i64,.int .i64,.int .i64,.int .i64,.int .i64,.int .i64,.int .i64,.int .i64]
def Ij(E:Nat→Env)(fn:Func)(S:ah):Prop:=∀x,tq (E 100000000000000000000) fn ((fn.body).getD .skip) S x=S.f x
theorem fc{P:Program}{k:Nat}{T:ah}{l:List (Nat×ah)}(h:Sound P k T)(hl:∀f S,S∈fnsOf l f→Sound P f S):∀f S,S∈fnsOf ((k,T)::l) f→Sound P f S:=FnsOk.cons h hl
abbrev Hk:=Int×Int×Int×Int×Int×Int×Int×Int×Int×Int×Int
set_option maxRecDepth 100000
set_option maxHeartbeats 4000000
open List renaming getD→gd,length→ln,set→ls,replicate→rp
open Int renaming toNat→tn
open Option renaming bind→ob
open Go.IntKind renaming wrap→wp
open Sum renaming inl→il,inr→ir,elim→el
noncomputable section
def Ho:TI:=⟨.int .i64,1,8,[.int .i64 0],some (.int .i64)⟩
def Hz:TI:=⟨.int .i64,1,8,[.int .i64 0],some (.int .i64)⟩
def Hc:TI:=⟨.bool,1,1,[.bool false],some .bool⟩
def HE:TI:=⟨.int .u8,1,1,[.int .u8 0],some (.int .u8)⟩
def Hx:TI:=⟨.str,1,16,[.str ⟨#[]⟩],some .str⟩
def yw:TI:=⟨.slice 5,1,24,[.nils],some (.row (.int .u8))⟩
def Bl:TI:=⟨.slice 45,1,24,[.nils],some (.row tE)⟩
def Cn:TI:=⟨.slice 106,1,24,[.nils],some (.row tI)⟩
def FQ:TI:=⟨.struct [(0,23),(1,24),(2,25)],3,72,[.nils,.nils,.nils],some (.prod (.row (.int .u8)) (.prod (.row tE) (.row tI)))⟩
def F5:TI:=⟨.slice 3,1,24,[.nils],some (.row (.int .i64))⟩
def Gq:TI:=⟨.slice 33,1,24,[.nils],some (.row (.row (.int .i64)))⟩
def E9:TI:=⟨.slice 43,1,24,[.nils],some (.row (.prod (.int .i64) (.prod (.int .i64) (.prod (.int .i64) (.prod (.int .i64) (.prod (.row (.int .u8)) (.prod (.row tE) (.prod (.row tI) tI))))))))⟩
def E2:TI:=⟨.arr 4 3,4,32,[.int .i64 0,.int .i64 0,.int .i64 0,.int .i64 0],some tI⟩
def Gc:TI:=⟨.struct [(0,2),(1,3),(2,3),(3,3),(4,23),(5,24),(6,25),(7,41)],11,136,[.int .i64 0,.int .i64 0,.int .i64 0,.int .i64 0,.nils,.nils,.nils,.int .i64 0,.int .i64 0,.int .i64 0,.int .i64 0],some (.prod (.int .i64) (.prod (.int .i64) (.prod (.int .i64) (.prod (.int .i64) (.prod (.row (.int .u8)) (.prod (.row tE) (.prod (.row tI) tI)))))))⟩
def FZ:TI:=⟨.struct [(0,3),(1,3),(2,3),(3,3),(4,3),(5,3),(6,3),(7,3),(8,3),(9,3),(10,3)],11,88,[.int .i64 0,.int .i64 0,.int .i64 0,.int .i64 0,.int .i64 0,.int .i64 0,.int .i64 0,.int .i64 0,.int .i64 0,.int .i64 0,.int .i64 0],some tE⟩
def Ff:TI:=⟨.struct [(0,3),(1,3),(2,4)],3,24,[.int .i64 0,.int .i64 0,.bool false],some (.prod (.int .i64) (.prod (.int .i64) .bool))⟩
def FB:TI:=⟨.arr 4 50,12,96,[.int .i64 0,.int .i64 0,.bool false,.int .i64 0,.int .i64 0,.bool false,.int .i64 0,.int .i64 0,.bool false,.int .i64 0,.int .i64 0,.bool false],some (.prod (.prod (.int .i64) (.prod (.int .i64) .bool)) (.prod (.prod (.int .i64) (.prod (.int .i64) .bool)) (.prod (.prod (.int .i64) (.prod (.int .i64) .bool)) (.prod (.int .i64) (.prod (.int .i64) .bool)))))⟩
def Fp:TI:=⟨.int .u64,1,8,[.int .u64 0],some (.int .u64)⟩
def FU:TI:=⟨.struct [(0,27),(3,2),(4,3),(5,33)],6,112,[.nils,.nils,.nils,.int .i64 0,.int .i64 0,.nils],some (.prod (.prod (.row (.int .u8)) (.prod (.row tE) (.row tI))) (.prod (.int .i64) (.prod (.int .i64) (.row (.int .i64)))))⟩
def GA:TI:=⟨.struct [(0,3),(1,3)],2,16,[.int .i64 0,.int .i64 0],some (.prod (.int .i64) (.int .i64))⟩
def FY:TI:=⟨.arr 6 80,12,96,[.int .i64 0,.int .i64 0,.int .i64 0,.int .i64 0,.int .i64 0,.int .i64 0,.int .i64 0,.int .i64 0,.int .i64 0,.int .i64 0,.int .i64 0,.int .i64 0],some (.prod (.prod (.int .i64) (.int .i64)) (.prod (.prod (.int .i64) (.int .i64)) (.prod (.prod (.int .i64) (.int .i64)) (.prod (.prod (.int .i64) (.int .i64)) (.prod (.prod (.int .i64) (.int .i64)) (.prod (.int .i64) (.int .i64)))))))⟩
def E8:TI:=⟨.slice 4,1,24,[.nils],some (.row .bool)⟩
def Gy:TI:=⟨.flt .f64,1,8,[.fint 0],none⟩
def FC:TI:=⟨.struct [(0,43),(11,4),(12,4)],13,144,[.int .i64 0,.int .i64 0,.int .i64 0,.int .i64 0,.nils,.nils,.nils,.int .i64 0,.int .i64 0,.int .i64 0,.int .i64 0,.bool false,.bool false],some (.prod (.prod (.int .i64) (.prod (.int .i64) (.prod (.int .i64) (.prod (.int .i64) (.prod (.row (.int .u8)) (.prod (.row tE) (.prod (.row tI) tI))))))) (.prod .bool .bool))⟩
def C0:TI:=⟨.struct [(0,3)],1,8,[.int .i64 0],some (.int .i64)⟩
def CX:TI:=⟨.struct [(0,3),(1,3),(2,3),(3,3)],4,32,[.int .i64 0,.int .i64 0,.int .i64 0,.int .i64 0],some tI⟩
def C3:TI:=⟨.struct [(0,23),(1,24),(2,25)],3,72,[.nils,.nils,.nils],some (.prod (.row (.int .u8)) (.prod (.row tE) (.row tI)))⟩
def Df:TI:=⟨.slice 118,1,24,[.nils],some (.row (.row .ifc))⟩
def Da:TI:=⟨.struct [(0,3),(1,115)],2,32,[.int .i64 0,.nils],some (.prod (.int .i64) (.row (.row .ifc)))⟩
def Dt:TI:=⟨.slice 121,1,24,[.nils],some (.row .ifc)⟩
def CY:TI:=⟨.iface,1,16,[.nili],some .ifc⟩
def Dk:TI:=⟨.arr 6 3,6,48,[.int .i64 0,.int .i64 0,.int .i64 0,.int .i64 0,.int .i64 0,.int .i64 0],some (.prod (.int .i64) (.prod (.int .i64) tI))⟩
def CW:TI:=⟨.struct [(0,43)],11,136,[.int .i64 0,.int .i64 0,.int .i64 0,.int .i64 0,.nils,.nils,.nils,.int .i64 0,.int .i64 0,.int .i64 0,.int .i64 0],some (.prod (.int .i64) (.prod (.int .i64) (.prod (.int .i64) (.prod (.int .i64) (.prod (.row (.int .u8)) (.prod (.row tE) (.prod (.row tI) tI)))))))⟩
def Dg:TI:=⟨.struct [(0,23)],1,24,[.nils],some (.row (.int .u8))⟩
def Dl:TI:=⟨.struct [(0,3),(1,45)],12,96,[.int .i64 0,.int .i64 0,.int .i64 0,.int .i64 0,.int .i64 0,.int .i64 0,.int .i64 0,.int .i64 0,.int .i64 0,.int .i64 0,.int .i64 0,.int .i64 0],some (.prod (.int .i64) tE)⟩
def C2:TI:=⟨.struct [(0,3),(1,106)],5,40,[.int .i64 0,.int .i64 0,.int .i64 0,.int .i64 0,.int .i64 0],some (.prod (.int .i64) tI)⟩
def Dd:TI:=⟨.struct [(0,3),(1,3)],2,16,[.int .i64 0,.int .i64 0],some (.prod (.int .i64) (.int .i64))⟩
def CS:TI:=⟨.struct [(0,3)],1,8,[.int .i64 0],some (.int .i64)⟩
def De:TI:=⟨.int .u64,1,8,[.int .u64 0],some (.int .u64)⟩
def bQ:List (Nat×TI):=[(2,Ho),(3,Hz),(4,Hc),(5,HE),(9,Hx),(23,yw),(24,Bl),(25,Cn),(27,FQ),(33,F5),(38,Gq),(39,E9),(41,E2),(43,Gc),(45,FZ),(50,Ff),(52,FB),(66,Fp),(78,FU),(80,GA),(81,FY),(87,E8),(93,Gy),(99,FC),(104,C0),(106,CX),(112,C3),(115,Df),(117,Da),(118,Dt),(121,CY),(162,Dk),(169,CW),(172,Dg),(174,Dl),(176,C2),(191,Dd),(198,CS),(207,De)]
theorem F7:aC Go.Proofs.Tryz.prog 2 Ho:=by constructor<;>kernel_rfl
theorem Fc:aC Go.Proofs.Tryz.prog 3 Hz:=by constructor<;>kernel_rfl
theorem FJ:aC Go.Proofs.Tryz.prog 4 Hc:=by constructor<;>kernel_rfl
theorem Fv:aC Go.Proofs.Tryz.prog 5 HE:=by constructor<;>kernel_rfl
theorem FI:aC Go.Proofs.Tryz.prog 9 Hx:=by constructor<;>kernel_rfl
theorem DY:aC Go.Proofs.Tryz.prog 23 yw:=by constructor<;>kernel_rfl
theorem D3:aC Go.Proofs.Tryz.prog 24 Bl:=by constructor<;>kernel_rfl
theorem ER:aC Go.Proofs.Tryz.prog 25 Cn:=by constructor<;>kernel_rfl
theorem Ez:aC Go.Proofs.Tryz.prog 27 FQ:=by constructor<;>kernel_rfl
theorem Eu:aC Go.Proofs.Tryz.prog 33 F5:=by constructor<;>kernel_rfl
theorem EH:aC Go.Proofs.Tryz.prog 38 Gq:=by constructor<;>kernel_rfl
theorem EM:aC Go.Proofs.Tryz.prog 39 E9:=by constructor<;>kernel_rfl
theorem ES:aC Go.Proofs.Tryz.prog 41 E2:=by constructor<;>kernel_rfl
theorem EJ:aC Go.Proofs.Tryz.prog 43 Gc:=by constructor<;>kernel_rfl
theorem Ea:aC Go.Proofs.Tryz.prog 45 FZ:=by constructor<;>kernel_rfl
theorem EY:aC Go.Proofs.Tryz.prog 50 Ff:=by constructor<;>kernel_rfl
theorem Eb:aC Go.Proofs.Tryz.prog 52 FB:=by constructor<;>kernel_rfl
theorem D0:aC Go.Proofs.Tryz.prog 66 Fp:=by constructor<;>kernel_rfl
theorem DI:aC Go.Proofs.Tryz.prog 78 FU:=by constructor<;>kernel_rfl
theorem DO:aC Go.Proofs.Tryz.prog 80 GA:=by constructor<;>kernel_rfl
theorem ET:aC Go.Proofs.Tryz.prog 81 FY:=by constructor<;>kernel_rfl
theorem Em:aC Go.Proofs.Tryz.prog 87 E8:=by constructor<;>kernel_rfl
theorem EB:aC Go.Proofs.Tryz.prog 93 Gy:=by constructor<;>kernel_rfl
theorem Eo:aC Go.Proofs.Tryz.prog 99 FC:=by constructor<;>kernel_rfl
theorem BM:aC Go.Proofs.Tryz.prog 104 C0:=by constructor<;>kernel_rfl
theorem Bd:aC Go.Proofs.Tryz.prog 106 CX:=by constructor<;>kernel_rfl
theorem Bi:aC Go.Proofs.Tryz.prog 112 C3:=by constructor<;>kernel_rfl
theorem Bb:aC Go.Proofs.Tryz.prog 115 Df:=by constructor<;>kernel_rfl
theorem BF:aC Go.Proofs.Tryz.prog 117 Da:=by constructor<;>kernel_rfl
theorem Cx:aC Go.Proofs.Tryz.prog 118 Dt:=by constructor<;>kernel_rfl
theorem B0:aC Go.Proofs.Tryz.prog 121 CY:=by constructor<;>kernel_rfl
theorem Be:aC Go.Proofs.Tryz.prog 162 Dk:=by constructor<;>kernel_rfl
theorem BN:aC Go.Proofs.Tryz.prog 169 CW:=by constructor<;>kernel_rfl
theorem Bp:aC Go.Proofs.Tryz.prog 172 Dg:=by constructor<;>kernel_rfl
theorem Bu:aC Go.Proofs.Tryz.prog 174 Dl:=by constructor<;>kernel_rfl
theorem Cs:aC Go.Proofs.Tryz.prog 176 C2:=by constructor<;>kernel_rfl
theorem Bw:aC Go.Proofs.Tryz.prog 191 Dd:=by constructor<;>kernel_rfl
theorem Br:aC Go.Proofs.Tryz.prog 198 CS:=by constructor<;>kernel_rfl
theorem BU:aC Go.Proofs.Tryz.prog 207 De:=by constructor<;>kernel_rfl
theorem fx:bL Go.Proofs.Tryz.prog bQ:=bL.cons F7<|bL.cons Fc<|bL.cons FJ<|bL.cons Fv<|bL.cons FI<|bL.cons DY<|bL.cons D3<|bL.cons ER<|bL.cons Ez<|bL.cons Eu<|bL.cons EH<|bL.cons EM<|bL.cons ES<|bL.cons EJ<|bL.cons Ea<|bL.cons EY<|bL.cons Eb<|bL.cons D0<|bL.cons DI<|bL.cons DO<|bL.cons ET<|bL.cons Em<|bL.cons EB<|bL.cons Eo<|bL.cons BM<|bL.cons Bd<|bL.cons Bi<|bL.cons Bb<|bL.cons BF<|bL.cons Cx<|bL.cons B0<|bL.cons Be<|bL.cons BN<|bL.cons Bp<|bL.cons Bu<|bL.cons Cs<|bL.cons Bw<|bL.cons Br<|bL.cons BU<|bL.nil _
theorem lQ:Go.Proofs.Tryz.prog.follows .mixedOrders=true:=by kernel_rfl
theorem E3:ic Go.Proofs.Tryz.prog 41 [.int .i64,.int .i64,.int .i64,.int .i64]:=Bv (n:=4) (e:=3) (k:=.int .i64) (by kernel_rfl) (by kernel_rfl) (by kernel_rfl) (by kernel_rfl) (by kernel_rfl) (by kernel_rfl)
theorem BS:ic Go.Proofs.Tryz.prog 45 [.int .i64,.int .i64,.int .i64,.int .i64,.int .i64,.int .i64,.int .i64,.int .i64,.int .i64,.int .i64,.int .i64]:=nY (by kernel_rfl) (by kernel_rfl) (by kernel_rfl) (by kernel_rfl)
theorem HJ:ic Go.Proofs.Tryz.prog 80 [.int .i64,.int .i64]:=nY (by kernel_rfl) (by kernel_rfl) (by kernel_rfl) (by kernel_rfl)
theorem nL:ic Go.Proofs.Tryz.prog 106 [.int .i64,.int .i64,.int .i64,.int .i64]:=nY (by kernel_rfl) (by kernel_rfl) (by kernel_rfl) (by kernel_rfl)
theorem GK:ic Go.Proofs.Tryz.prog 191 [.int .i64,.int .i64]:=nY (by kernel_rfl) (by kernel_rfl) (by kernel_rfl) (by kernel_rfl)
structure CR where
 k:Nat
 S:ah
 h:Sound Go.Proofs.Tryz.prog k S
abbrev b{k:Nat}{S:ah}(h:Sound Go.Proofs.Tryz.prog k S):CR:=⟨k,S,h⟩
theorem fh:∀(l:List CR) (f:Nat) (S:ah),S∈fnsOf (l.map fun x=>(x.k,x.S)) f→Sound Go.Proofs.Tryz.prog f S
 | [],_,_,h=>by cases h
 | x::l,f,S,h=>fc x.h (fh l) f S h
noncomputable abbrev en(l:List CR)(q:List (Nat×List SK))(c d e:List (Nat×Shape))(m:Nat)(S:ah):Env:=⟨bQ,l.map fun x=>(x.k,x.S),q,c,d,e,m,S.au,100000000000000000000⟩
noncomputable abbrev FN(k:Nat):Func:=(Go.Proofs.Tryz.prog.funcs[k]?).getD Go.Proofs.Tryz.f163
abbrev SO(k:Nat)(S:ah):Prop:=Sound Go.Proofs.Tryz.prog k S
theorem n0:bK Go.Proofs.Tryz.prog []:=bK.nil _
theorem sa{α:Type}{o:Option α}{d:α}(h:o.isSome=true):o=some (o.getD d):=match o,h with | some _,_=>rfl
theorem so{k : Nat}{S : ah}{q : List (Nat × List SK)}(l : List CR)(he : bK Go.Proofs.Tryz.prog q)(c d e : List (Nat × Shape))(m : Nat)(h : ((Go.Proofs.Tryz.prog.funcs[k]?).isSome && (FN k).body.isSome && !((FN k).name == "runtime.NumGoroutine") && S.ins.wf && S.outs.all Shape.wf) = true)
 (r:∀x,tq (en l q c d e m S) (FN k) ((FN k).body.getD .skip) S x=S.f x):SO k S:=by
 simp only[Bool.and_eq_true,Bool.not_eq_true']at h;exact tP (fn:=FN k) (fun _=>en l q c d e m S) (sa h.1.1.1.1) (sa h.1.1.1.2) h.1.1.2 lQ (fun _=>⟨fx,he,fh l⟩) (fun _=>rfl) h.1.2 h.2 (fun x s hs=>(r x).trans hs)
abbrev i6:CF:=.int .i64
abbrev q8:CF:=.row (.int .u8)
abbrev qE:CF:=.row tE
abbrev qI:CF:=.row tI
abbrev aE:OF:=.arr tE
abbrev aI:OF:=.arr tI
abbrev a8:OF:=.arr (.int .u8)
abbrev pt(n:Nat):AF:=.c (.ptr n 0)
abbrev ow(n:Nat):AF:=.c (.own n)
abbrev bw(a b c:CF):OF:=.box [i6,i6,i6,i6,a,b,c,i6,i6,i6,i6]
abbrev bx(a b c:CF):OF:=.box [i6,i6,i6,i6,a,b,c,i6,i6,i6,i6,.bool,.bool]
abbrev bz:OF:=.box [i6,i6,i6,i6,i6,i6,i6,i6,i6,i6,i6]
abbrev aw(a b c:CF):AF:=.agg [i6,i6,i6,i6,a,b,c,i6,i6,i6,i6]
abbrev zE:Hk:=(0,0,0,0,0,0,0,0,0,0,0)
abbrev LE:=List Hk
abbrev I4:=Int×Int×Int×Int
abbrev LI:=List I4
abbrev LZ:=List Int
abbrev T0:=Int×Int×Int×Int×Int×Int×Int×Int×LZ×LE×LI×Unit
abbrev T1:=Int×Int×Int×Int×Int×Int×Int×Int×Int×Int×Int×Unit
abbrev T2:=Int×Int×Int×Int×Int×Int×Int×Int×Bool×Bool×LZ×LE×LI×Unit
abbrev T3:=Int×Int×Unit
abbrev T4:=Int×Int×Int×Int×Int×Int×Int×Int×T0
abbrev T5:=Int×Int×Int×Int×Int×Int×Int×Int×Int×Int×Bool×Int×Int×Bool×Int×Int×Bool×Int×Int×Bool×T0
abbrev T6:=Int×Int×Int×Int×LZ×LE×LI×Int×Int×T3
abbrev T7:=Int×Int×Int×Int×Int×Int×Int×Int×Int×Int×Int×Int×Int×Int×Int×Int×LI×LZ×LE×Unit
abbrev T8:=List (Int×Int×Int×Int×LZ×LE×LI×Int×Int×Int×Int)×Unit
abbrev T9:=LZ×LE×LI×Unit
abbrev qU:=Int×Int×Int×Int×LZ×LE×LI×Int×Int×Int×Int×T1
abbrev u6:=LZ×LI×Int×Int×Int×Int×Int×Int×Int×Int×Int×Int×Int×Int×Int×Int×Int×Int×LE×LZ×LE×LE×LI×Unit
abbrev xO:=Int×Int×Int×Int×LZ×LE×LI×Int×Int×Int×Int×Int×Int×Int×Int×LZ×LE×LI×Int×Int×Int×Int×List Dyn×Unit
abbrev Di:=Int×Int×Int×Int×Int×LZ×LE×LI×Int×Int×Int×Int×List (Int×Int×Int×Int×LZ×LE×LI×Int×Int×Int×Int)×Int×Int×Bool×Int×Int×Bool×Int×Int×Bool×Int×Int×Bool×Unit
abbrev CU:=Int×List (Int×Int×Int×Int×LZ×LE×LI×Int×Int×Int×Int)×Int×Int×Int×Int×Int×Int×Int×Int×Int×Int×Bool×Int×Int×Bool×Int×Int×Bool×Int×Int×Bool×T9
abbrev zb:=Int×Int×Int×Bool×Int×Int×Bool×Int×Int×Bool×Int×Int×Bool×Int×Int×Int×Int×Int×Int×Int×Int×T2
abbrev kt:=Int×Int×LZ×Unit
abbrev oN:=Int×LZ×LZ×Unit
abbrev xJ:=Int×Int×Int×Int×LZ×LE×LI×Int×Int×Int×Int×T6
abbrev wE:=Int×Int×Int×Int×Int×Int×Int×Int×LZ×LI×T9
abbrev vo:=Int×Int×Int×LZ×Int×T1
abbrev fR:=Int×Int×T3
abbrev C7:=Int×Int×Int×Int×Int×Int×Int×Int×Int×Int×Int×Int×Int×Int×T7
abbrev C1:=Int×Int×Int×Int×Int×Int×Int×Int×Int×Int×List (List Dyn)×T9
abbrev Hf:=Int×Int×Int×LZ×LZ×LZ×Unit
abbrev Dn:=Int×Int×Int×Int×Int×Int×Int×Int×Int×Int×Int×Int×Int×kt
abbrev Fy:=Int×Int×Int×Int×Int×Int×Int×Int×Int×Bool×Bool×LZ×LE×LI×LE×Unit
abbrev C8:=Int×Int×Int×Int×Int×Bool×Bool×LZ×Int×T1
abbrev Gj:=Int×Int×Int×Int×Int×Int×Int×Int×Bool×Bool×LZ×LI×LE×Unit
abbrev zS:=Int×Int×Int×List (List Dyn)×T4
abbrev HD:=Int×LZ×LI×Int×Int×Int×Int×Int×Int×Int×Int×Int×Int×Int×Int×Int×Int×Int×Int×LZ×LE×LE×LI×Unit
abbrev FO:=Int×Int×Int×Int×Int×Int×Int×Int×Int×Int×Int×T1
abbrev AU:=Int×Int×LZ×LE×LZ×LI×Unit
abbrev HA:=Int×LZ×LI×LE×LI×Int×Int×Int×Int×Int×Int×Int×Int×Int×Int×Int×Int×Int×Int×Int×Int×LE×Unit
abbrev sy:=LZ×List Bool×oN
abbrev Hu:=List (LZ)×Int×Int×List (Int×Int×Int×Int×LZ×LE×LI×Int×Int×Int×Int)×Int×List (List Dyn)×Unit
abbrev zN:=Int×Int×Int×Int×Int×vo
abbrev zg:=LZ×Int×LZ×Unit
abbrev Hm:=Int×LZ×LI×Int×Int×Int×Int×Int×Int×Int×Int×Int×Int×Int×Int×Int×Int×Int×Int×LE×T9
abbrev Gb:=Int×Int×Int×Int×LZ×LE×LI×Int×Int×Int×Int
abbrev Hq:=Int×Int×Int×Int×Int×Int×Int×Int×Int×Int×Int×Int×Int×Int×Int×Int×LE×LZ×LI×Unit
abbrev oK:=Int×Int×kt
abbrev Hg:=Int×Int×Int×Bool×Int×Int×Int×Int×Int×Int×Int×Int×Bool×Bool×Int×Int×Int×T0
abbrev C4:=Bool×Bool×Int×Int×LZ×fR
abbrev HG:=Int×Int×Int×Int×Int×Int×Int×Int×Int×Int×Bool×Bool×LE×LZ×LI×Unit
abbrev Hp:=Int×Int×Int×Int×Int×Int×Int×Int×Int×Int×Bool×Bool×LI×LZ×LE×Unit
abbrev Hn:=List (LZ)×Int×List (Int×Int×Int×Int×LZ×LE×LI×Int×Int×Int×Int)×T0
abbrev Ha:=Int×Int×Int×Int×Int×Int×Int×Int×Int×Int×Bool×Bool×LZ×LI×LE×T9
abbrev Hd:=Int×Int×Int×Int×Int×Int×Int×Int×Int×Int×Bool×Bool×LI×LE×T9
abbrev HC:=List (LZ)×Int×Int×Int×Int×Int×LZ×LE×LI×Int×Int×Int×Int×T8
abbrev Dj:=Int×Int×List Bool×Unit
abbrev xt:=LZ×LZ×LE×Unit
abbrev Hb:=Int×Int×Int×Int×Int×Int×Int×Int×Int×Int×Bool×Bool×LE×T9
abbrev He:=Int×Int×Int×Int×Int×Int×Int×Int×LZ×LI×LE×LI×LE×LI×Unit
abbrev sP:=Int×Int×T6
abbrev zw:=LZ×List Bool×Hf
abbrev Am:=Int×Int×Int×oN
abbrev uW:=Int×LI×Unit
abbrev Hl:=Int×Int×Int×Int×Int×Int×Int×Int×Bool×Bool×LZ×LI×T9
abbrev Hv:=Int×Int×Int×Int×Int×Int×Int×Int×Bool×Bool×LI×T9
abbrev Gg:=Int×Int×Int×Int×Int×Hf
abbrev xG:=Int×Int×qU
abbrev G8:=Int×Int×Bool×Int×LZ×LZ×List Bool×LE×LI×Unit
abbrev Dc:=Int×Int×LE×Unit
abbrev wI:=Int×Int×T4
abbrev Db:=LZ×List Bool×zg
abbrev Hw:=Int×Int×Bool×Int×LZ×LZ×List Bool×LE×Unit
def f163(a0:Int):Option (Int×Unit) :=
 some ((wp .u64 (↑(BitVec.toNat (BitVec.ofInt (IntKind.bits IntKind.u64) (wp .u64 (wp .u64 (↑(BitVec.toNat (BitVec.ofInt (IntKind.bits IntKind.u64) (wp .u64 (wp .u64 (↑(BitVec.toNat (BitVec.ofInt (IntKind.bits IntKind.u64) a0 ^^^ BitVec.ofInt (IntKind.bits IntKind.u64) (Int.fdiv a0 (2 ^ Min.min 30 (IntKind.bits IntKind.u64))))):Int)*13787848793156543929)) ^^^ BitVec.ofInt (IntKind.bits IntKind.u64) (Int.fdiv (wp .u64 (wp .u64 (↑(BitVec.toNat (BitVec.ofInt (IntKind.bits IntKind.u64) a0 ^^^ BitVec.ofInt (IntKind.bits IntKind.u64) (Int.fdiv a0 (2 ^ Min.min 30 (IntKind.bits IntKind.u64))))):Int)*13787848793156543929)) (2 ^ Min.min 27 (IntKind.bits IntKind.u64))))):Int)*10723151780598845931)) ^^^ BitVec.ofInt (IntKind.bits IntKind.u64) (Int.fdiv (wp .u64 (wp .u64 (↑(BitVec.toNat (BitVec.ofInt (IntKind.bits IntKind.u64) (wp .u64 (wp .u64 (↑(BitVec.toNat (BitVec.ofInt (IntKind.bits IntKind.u64) a0 ^^^ BitVec.ofInt (IntKind.bits IntKind.u64) (Int.fdiv a0 (2 ^ Min.min 30 (IntKind.bits IntKind.u64))))):Int)*13787848793156543929)) ^^^ BitVec.ofInt (IntKind.bits IntKind.u64) (Int.fdiv (wp .u64 (wp .u64 (↑(BitVec.toNat (BitVec.ofInt (IntKind.bits IntKind.u64) a0 ^^^ BitVec.ofInt (IntKind.bits IntKind.u64) (Int.fdiv a0 (2 ^ Min.min 30 (IntKind.bits IntKind.u64))))):Int)*13787848793156543929)) (2 ^ Min.min 27 (IntKind.bits IntKind.u64))))):Int)*10723151780598845931)) (2 ^ Min.min 31 (IntKind.bits IntKind.u64))))):Int),()))
def f163.S:ah:=⟨⟨[(0,.c (.int .u64))],[]⟩,[⟨[(0,.c (.int .u64))],[]⟩],[],fun x=>f163 x.1⟩
theorem f163.sound:SO 163 f163.S:=so [] n0 [] [] [] 0 (by kernel_rfl) fun _=>by kernel_rfl
def f128.L1(x:Int×LZ×T3):Option (Int×Unit) :=
 it (X:=Int×LZ×T3) (fun rec x =>
 bif decide (x.2.2.2.1<x.2.2.1) then
 bif ae x.2.2.2.1 (ln x.2.1) then
 ob (f163 (wp .u64 (wp .u64 (↑(BitVec.toNat (BitVec.ofInt (IntKind.bits IntKind.u64) x.1 ^^^ BitVec.ofInt (IntKind.bits IntKind.u64) (wp .u64 (gd x.2.1 (tn x.2.2.2.1) 0)))):Int)+11400714819323198485))) fun y0 =>
 rec (y0.1,x.2.1,x.2.2.1,wp .i64 (x.2.2.2.1+1),())
 else
 none
 else
 some ((x.1,()))
 ) (100000000000000000000) (x)
def f128(a0:Int)(a1:LZ):Option (Int×Unit) :=
 ob (f163 (wp .u64 (wp .u64 a0+11400714819323198485))) fun y0 =>
 f128.L1 ((y0.1,a1,(↑(ln a1):Int),0,()))
def f128.S:ah:=⟨⟨[(0,n6),(1,.c (.row (.int .i64)))],[]⟩,[⟨[(0,.c (.int .u64))],[]⟩],[],fun x=>f128 x.1 x.2.1⟩
theorem f128.sound:SO 128 f128.S:=so [b f163.sound] n0 [] [(4,⟨[(5,.c (.int .u64)),(12,.c (.row (.int .i64))),(13,n6),(14,n6)],[]⟩)] [] 0 (by kernel_rfl) fun _=>by kernel_rfl
def f71(a0 a1:Int)(a2:LZ):Option (Int×Unit) :=
 bif decide (a0<1) then
 some ((0,()))
 else
 ob (f128 a1 a2) fun y0 =>
 bif decide (wp .u64 a0=0) then
 none
 else
 some ((wp .i64 (Int.tmod y0.1 (wp .u64 a0)),()))
def f71.S:ah:=⟨⟨[(0,n6),(1,n6),(2,.c (.row (.int .i64)))],[]⟩,[⟨[(0,n6)],[]⟩],[],fun(a,b,c,_)=>f71 a b c⟩
theorem f71.sound:SO 71 f71.S:=so [b f128.sound] n0 [] [] [] 0 (by kernel_rfl) fun _=>by kernel_rfl
def f36(a0:(LZ×LE×LI)×Int×Int×LZ)(a1 a2 a3:Int):Option (Int×Unit) :=
 ob (f71 a3 a0.2.1 [a0.2.2.1,a1,a2]) fun y0 =>
 some ((y0.1,()))
def f36.S:ah:=⟨⟨[(0,.c (.bptr (.prod (.prod (.row (.int .u8)) (.prod (.row tE) (.row tI))) (.prod (.int .i64) (.prod (.int .i64) (.row (.int .i64))))))),(1,n6),(2,n6),(3,n6)],[]⟩,[⟨[(0,n6)],[]⟩],[],fun(a,b,c,d,_)=>f36 a b c d⟩
theorem f36.sound:SO 36 f36.S:=so [b f71.sound] n0 [] [] [] 0 (by kernel_rfl) fun _=>by kernel_rfl
def f69(a0 a1:Int):Option (Int×Unit) :=
 some ((wp .i64 (wp .i64 (a1*24)+a0),()))
def f69.S:ah:=⟨⟨[(0,.agg [i6,i6])],[]⟩,[⟨[(0,n6)],[]⟩],[],fun x=>f69 x.1 x.2.1⟩
theorem f69.sound:SO 69 f69.S:=so [] n0 [] [] [] 0 (by kernel_rfl) fun _=>by kernel_rfl
def f34.L1(x:Int×Int×Int×Int×Int×Int×Int×Int×LZ×T3):Option (oK) :=
 it (X:=Int×Int×Int×Int×Int×Int×Int×Int×LZ×T3) (fun rec x=>match x with
 | (v0,v1,v2,v3,v4,v5,v6,v7,v8,v9,v10,_) =>
 bif decide (v5<v4) then
 bif decide (v0=0) then
 none
 else
 bif decide (v0=0) then
 none
 else
 ob (f69 (wp .i64 (v2+Int.tmod v5 v0)) (wp .i64 (v3+wp .i64 (Int.tdiv v5 v0)))) fun y0 =>
 bif ae y0.1 (ln v8) then
 rec (v0,v1,v2,v3,v4,wp .i64 (v5+1),v6,v7,ls v8 (tn y0.1) 1,v9,v10,())
 else
 none
 else
 some ((wp .i64 (v2+wp .i64 (Int.tdiv v0 2)),wp .i64 (v3+wp .i64 (Int.tdiv v1 2)),v6,v7,v8,()))
 ) (100000000000000000000) (x)
def f34(a0 a1 a2:Int)(a3:LZ):Option (oK) :=
 ob (f36 ((a3,[],[]),a1,a2,[]) a0 0 5) fun y0 =>
 ob (f36 ((a3,[],[]),a1,a2,[]) a0 1 4) fun y1 =>
 ob (f36 ((a3,[],[]),a1,a2,[]) a0 2 (wp .i64 (23-wp .i64 (3+y0.1)))) fun y2 =>
 ob (f36 ((a3,[],[]),a1,a2,[]) a0 3 (wp .i64 (15-wp .i64 (2+y1.1)))) fun y3 =>
 f34.L1 ((wp .i64 (3+y0.1),wp .i64 (2+y1.1),wp .i64 (1+y2.1),wp .i64 (1+y3.1),wp .i64 (wp .i64 (3+y0.1)*wp .i64 (2+y1.1)),0,a1,a2,a3,0,0,()))
def f34.S:ah:=⟨⟨[(0,pt 0),(1,n6)],[(0,.box [.own 1,.nils,.nils,i6,i6,.nils]),(1,a8)]⟩,[⟨[(0,.agg [i6,i6])],[(0,.box [.own 1,.nils,.nils,i6,i6,.nils]),(1,a8)]⟩],[0,1],fun(a,b,c,d,_)=>f34 a b c d⟩
theorem f34.sound:SO 34 f34.S:=so [b f36.sound,b f69.sound] n0 [] [(5,⟨[(0,pt 0),(4,pt 2),(5,n6),(6,n6),(7,n6),(8,n6),(32,n6),(33,n6)],[(0,.box [.own 1,.nils,.nils,i6,i6,.nils]),(1,a8),(2,.box [i6,i6])]⟩)] [] 2 (by kernel_rfl) fun _=>by kernel_rfl
def f70(a0 a1:Int):Option (Int×Unit) :=
 bif decide (a0<a1) then
 some ((wp .i64 (a0+1),()))
 else
 bif decide (a0>a1) then
 some ((wp .i64 (a0-1),()))
 else
 some ((a0,()))
def f70.S:ah:=⟨⟨[(0,n6),(1,n6)],[]⟩,[⟨[(0,n6)],[]⟩],[],fun x=>f70 x.1 x.2.1⟩
theorem f70.sound:SO 70 f70.S:=so [] n0 [] [] [] 0 (by kernel_rfl) fun _=>by kernel_rfl
def f35.L1(x:C4):Option (kt) :=
 it (X:=C4) (fun rec x=>match x with
 | (v0,v1,v2,v3,v4,v5,v6,v7,v8,_) =>
 ob (α:=C4⊕kt) (
 ob (f69 v5 v6) fun y0 =>
 bif ae y0.1 (ln v4) then
 bif gd v4 (tn y0.1) 0==0 then
 bif !v1 then
 some (il (v0,true,v2,v3,ls (ls v4 (tn y0.1) 1) (tn y0.1) 2,v5,v6,v7,v8,()))
 else
 some (il (v0,true,v2,v3,ls v4 (tn y0.1) 1,v5,v6,v7,v8,()))
 else
 some (il (v0,v1,v2,v3,v4,v5,v6,v7,v8,()))
 else
 none
 ) fun y1 =>
 el (fun y2=>match y2 with
 | (u2_0,u2_1,u2_2,u2_3,u2_4,u2_5,u2_6,u2_7,u2_8,_) =>
 bif u2_5==u2_7&&(u2_6==u2_8&&true) then
 some ((u2_2,u2_3,u2_4,()))
 else
 bif u2_0 then
 bif u2_5 !=u2_7 then
 ob (f70 u2_5 u2_7) fun y3 =>
 rec (u2_0,u2_1,u2_2,u2_3,u2_4,y3.1,u2_6,u2_7,u2_8,())
 else
 bif u2_6==u2_8 then
 ob (f70 u2_5 u2_7) fun y4 =>
 rec (u2_0,u2_1,u2_2,u2_3,u2_4,y4.1,u2_6,u2_7,u2_8,())
 else
 ob (f70 u2_6 u2_8) fun y5 =>
 rec (u2_0,u2_1,u2_2,u2_3,u2_4,u2_5,y5.1,u2_7,u2_8,())
 else
 bif u2_6==u2_8 then
 ob (f70 u2_5 u2_7) fun y6 =>
 rec (u2_0,u2_1,u2_2,u2_3,u2_4,y6.1,u2_6,u2_7,u2_8,())
 else
 ob (f70 u2_6 u2_8) fun y7 =>
 rec (u2_0,u2_1,u2_2,u2_3,u2_4,u2_5,y7.1,u2_7,u2_8,())
 ) (fun z8 =>
 some (z8)
 ) (y1)
 ) (100000000000000000000) (x)
def f35(a0 a1 a2 a3:Int)(a4:Bool)(a5 a6:Int)(a7:LZ):Option (kt) :=
 ob (α:=C4⊕kt) (
 ob (f69 a0 a1) fun y63 =>
 bif ae y63.1 (ln a7) then
 bif gd a7 (tn y63.1) 0==0 then
 some (il (a4,true,a5,a6,ls (ls a7 (tn y63.1) 1) (tn y63.1) 2,a0,a1,a2,a3,()))
 else
 some (il (a4,false,a5,a6,a7,a0,a1,a2,a3,()))
 else
 none
 ) fun y0 =>
 el (fun y1=>match y1 with
 | (u1_0,u1_1,u1_2,u1_3,u1_4,u1_5,u1_6,u1_7,u1_8,_) =>
 bif u1_5==u1_7&&(u1_6==u1_8&&true) then
 some ((u1_2,u1_3,u1_4,()))
 else
 bif u1_0 then
 bif u1_5 !=u1_7 then
 ob (f70 u1_5 u1_7) fun y3 =>
 f35.L1 ((u1_0,u1_1,u1_2,u1_3,u1_4,y3.1,u1_6,u1_7,u1_8,()))
 else
 bif u1_6==u1_8 then
 ob (f70 u1_5 u1_7) fun y15 =>
 f35.L1 ((u1_0,u1_1,u1_2,u1_3,u1_4,y15.1,u1_6,u1_7,u1_8,()))
 else
 ob (f70 u1_6 u1_8) fun y27 =>
 f35.L1 ((u1_0,u1_1,u1_2,u1_3,u1_4,u1_5,y27.1,u1_7,u1_8,()))
 else
 bif u1_6==u1_8 then
 ob (f70 u1_5 u1_7) fun y39 =>
 f35.L1 ((u1_0,u1_1,u1_2,u1_3,u1_4,y39.1,u1_6,u1_7,u1_8,()))
 else
 ob (f70 u1_6 u1_8) fun y51 =>
 f35.L1 ((u1_0,u1_1,u1_2,u1_3,u1_4,u1_5,y51.1,u1_7,u1_8,()))
 ) (fun z2 =>
 some (z2)
 ) (y0)
def f35.S:ah:=⟨⟨[(0,pt 0),(1,.agg [i6,i6]),(2,.agg [i6,i6]),(3,nb)],[(0,.box [.own 1,.nils,.nils,i6,i6,.nils]),(1,a8)]⟩,[⟨[],[(0,.box [.own 1,.nils,.nils,i6,i6,.nils]),(1,a8)]⟩],[0,1],fun(a,b,c,d,e,f,g,h,_)=>f35 a b c d e f g h⟩
theorem f35.sound:SO 35 f35.S:=so [b f69.sound,b f70.sound] (bK.cons HJ n0) [(10,⟨[(0,pt 0),(3,nb),(5,pt 2),(6,pt 3),(8,nb)],[(0,.box [.own 1,.nils,.nils,i6,i6,.nils]),(1,a8),(2,.box [i6,i6]),(3,.box [i6,i6])]⟩)] [] [(0,⟨[(0,pt 0),(3,nb),(5,pt 2),(6,pt 3),(8,nb)],[(0,.box [.own 1,.nils,.nils,i6,i6,.nils]),(1,a8),(2,.box [i6,i6]),(3,.box [i6,i6])]⟩)] 2 (by kernel_rfl) fun _=>by kernel_rfl
def f41(a0:LZ)(a1:Int):Option (Int×Unit) :=
 bif decide (a1<0) then
 some ((0,()))
 else
 bif decide (a1≥(↑(ln a0):Int)) then
 some ((0,()))
 else
 bif ae a1 (ln a0) then
 some ((wp .i64 (gd a0 (tn a1) 0),()))
 else
 none
def f41.S:ah:=⟨⟨[(0,r8),(1,n6)],[]⟩,[⟨[(0,n6)],[]⟩],[],fun x=>f41 x.1 x.2.1⟩
theorem f41.sound:SO 41 f41.S:=so [] n0 [] [] [] 0 (by kernel_rfl) fun _=>by kernel_rfl
def f15(a0:Int):Option (Bool×Unit) :=
 bif decide (a0≥1) then
 some ((decide (a0≤5),()))
 else
 some ((false,()))
def f15.S:ah:=⟨⟨[(0,n6)],[]⟩,[⟨[(0,nb)],[]⟩],[],fun x=>f15 x.1⟩
theorem f15.sound:SO 15 f15.S:=so [] n0 [] [] [] 0 (by kernel_rfl) fun _=>by kernel_rfl
def f77(a0 a1:Int):Option (Int×Unit) :=
 bif decide (a0<0) then
 some ((-1,()))
 else
 bif decide (a0≥24) then
 some ((-1,()))
 else
 bif decide (a1<0) then
 some ((-1,()))
 else
 bif decide (a1≥16) then
 some ((-1,()))
 else
 some ((wp .i64 (wp .i64 (a1*24)+a0),()))
def f77.S:ah:=⟨⟨[(0,n6),(1,n6)],[]⟩,[⟨[(0,n6)],[]⟩],[],fun x=>f77 x.1 x.2.1⟩
theorem f77.sound:SO 77 f77.S:=so [] n0 [] [] [] 0 (by kernel_rfl) fun _=>by kernel_rfl
def f42(a0:Int):Option (fR) :=
 ob (f77 (Int.tmod a0 24) (wp .i64 (wp .i64 (Int.tdiv a0 24)-1))) fun y0 =>
 ob (f77 (wp .i64 (Int.tmod a0 24+1)) (wp .i64 (Int.tdiv a0 24))) fun y1 =>
 ob (f77 (Int.tmod a0 24) (wp .i64 (wp .i64 (Int.tdiv a0 24)+1))) fun y2 =>
 ob (f77 (wp .i64 (Int.tmod a0 24-1)) (wp .i64 (Int.tdiv a0 24))) fun y3 =>
 some ((y0.1,y1.1,y2.1,y3.1,()))
def f42.S:ah:=⟨⟨[(0,n6)],[]⟩,[⟨[(0,.agg [i6,i6,i6,i6])],[]⟩],[],fun x=>f42 x.1⟩
theorem f42.sound:SO 42 f42.S:=so [b f77.sound] n0 [] [] [] 0 (by kernel_rfl) fun _=>by kernel_rfl
def f14.L1(k0:zw→Option (LZ×Unit))(x:LZ×List Bool×Gg):Option (LZ×Unit) :=
 it (X:=LZ×List Bool×Gg) (fun rec x=>match x with
 | (v0,v1,v2,v3,v4,v5,v6,v7,v8,v9,v10,v11,v12,_) =>
 bif decide (v9<4) then
 bif ae v9 4 then
 ob (α:=LZ×List Bool×Int×Gg⊕LZ×Unit) (
 bif decide (gd [v5,v6,v7,v8] (tn v9) 0<0) then
 ob (rec (v0,v1,v2,v3,v4,v5,v6,v7,v8,wp .i64 (v9+1),v10,v11,v12,())) fun y0 =>
 some (ir y0)
 else
 bif ae (gd [v5,v6,v7,v8] (tn v9) 0) (ln v10) then
 bif decide (gd v10 (tn (gd [v5,v6,v7,v8] (tn v9) 0)) 0≥0) then
 ob (rec (v0,v1,v2,v3,v4,v5,v6,v7,v8,wp .i64 (v9+1),v10,v11,v12,())) fun y1 =>
 some (ir y1)
 else
 ob (f41 v0 (gd [v5,v6,v7,v8] (tn v9) 0)) fun y2 =>
 ob (f15 y2.1) fun y3 =>
 bif !y3.1 then
 ob (rec (v0,v1,v2,v3,v4,v5,v6,v7,v8,wp .i64 (v9+1),v10,v11,v12,())) fun y4 =>
 some (ir y4)
 else
 bif decide (gd [v5,v6,v7,v8] (tn v9) 0<(↑(ln v1):Int)) then
 bif ae (gd [v5,v6,v7,v8] (tn v9) 0) (ln v1) then
 bif gd v1 (tn (gd [v5,v6,v7,v8] (tn v9) 0)) false then
 ob (rec (v0,v1,v2,v3,v4,v5,v6,v7,v8,wp .i64 (v9+1),v10,v11,v12,())) fun y5 =>
 some (ir y5)
 else
 some (il (v0,v1,v2,gd [v5,v6,v7,v8] (tn v9) 0,v3,v4,v5,v6,v7,v8,v9,v10,v11,v12,()))
 else
 none
 else
 some (il (v0,v1,v2,gd [v5,v6,v7,v8] (tn v9) 0,v3,v4,v5,v6,v7,v8,v9,v10,v11,v12,()))
 else
 none
 ) fun y6 =>
 el (fun y7=>match y7 with
 | (u7_0,u7_1,u7_2,u7_3,u7_4,u7_5,u7_6,u7_7,u7_8,u7_9,u7_10,u7_11,u7_12,u7_13,_) =>
 bif ae u7_3 (ln u7_11) then
 bif decide (ln u7_12+1≤aB 8) then
 let s0:LZ:=ls u7_11 (tn u7_3) u7_2
 rec (u7_0,u7_1,u7_2,u7_4,u7_5,u7_6,u7_7,u7_8,u7_9,wp .i64 (u7_10+1),s0,u7_12++[u7_3],u7_13,())
 else
 none
 else
 none
 ) (fun z8 =>
 some (z8)
 ) (y6)
 else
 none
 else
 k0 (v0,v1,v2,v3,wp .i64 (v4+1),v10,v11,v12,())
 ) (100000000000000000000) (x)
def f14.L2(k0:sy→Option (LZ×Unit))(x:zw):Option (LZ×Unit) :=
 it (X:=zw) (fun rec x=>match x with
 | (v0,v1,v2,v3,v4,v5,v6,v7,_) =>
 bif decide (v4<v3) then
 bif ae v4 (ln v7) then
 ob (f42 (gd v7 (tn v4) 0)) fun y0 =>
 f14.L1 rec ((v0,v1,v2,v3,v4,y0.1,y0.2.1,y0.2.2.1,y0.2.2.2.1,0,v5,v6,v7,()))
 else
 none
 else
 bif decide ((↑(ln v6):Int)>0) then
 k0 (v0,v1,v2,v5,v6,())
 else
 some ((v5,()))
 ) (100000000000000000000) (x)
def f14.L3(x:sy):Option (LZ×Unit) :=
 it (X:=sy) (fun rec x =>
 f14.L2 rec ((x.1,x.2.1,wp .i64 (x.2.2.1+1),(↑(ln x.2.2.2.2.1):Int),0,x.2.2.2.1,[],x.2.2.2.2.1,()))
 ) (100000000000000000000) (x)
def f14.L4(x:zw):Option (LZ×Unit) :=
 it (X:=zw) (fun rec x=>match x with
 | (v0,v1,v2,v3,v4,v5,v6,v7,_) =>
 bif decide (v4<v3) then
 bif ae v4 (ln v7) then
 ob (f42 (gd v7 (tn v4) 0)) fun y0 =>
 f14.L1 rec ((v0,v1,v2,v3,v4,y0.1,y0.2.1,y0.2.2.1,y0.2.2.2.1,0,v5,v6,v7,()))
 else
 none
 else
 bif decide ((↑(ln v6):Int)>0) then
 f14.L3 ((v0,v1,v2,v5,v6,()))
 else
 some ((v5,()))
 ) (100000000000000000000) (x)
def f14.L5(x:LZ×List Bool×LZ×Int×oN):Option (LZ×Unit) :=
 it (X:=LZ×List Bool×LZ×Int×oN) (fun rec x=>match x with
 | (v0,v1,v2,v3,v4,v5,v6,_) =>
 bif decide (v4<v3) then
 bif ae v4 (ln v2) then
 bif decide (gd v2 (tn v4) 0≥0) then
 bif decide (gd v2 (tn v4) 0<384) then
 bif ae (gd v2 (tn v4) 0) (ln v5) then
 bif decide (gd v5 (tn (gd v2 (tn v4) 0)) 0<0) then
 ob (f41 v0 (gd v2 (tn v4) 0)) fun y0 =>
 ob (f15 y0.1) fun y1 =>
 bif y1.1 then
 bif ae (gd v2 (tn v4) 0) (ln v5) then
 bif decide (ln v6+1≤aB 8) then
 rec (v0,v1,v2,v3,wp .i64 (v4+1),ls v5 (tn (gd v2 (tn v4) 0)) 0,v6++[gd v2 (tn v4) 0],())
 else
 none
 else
 none
 else
 rec (v0,v1,v2,v3,wp .i64 (v4+1),v5,v6,())
 else
 rec (v0,v1,v2,v3,wp .i64 (v4+1),v5,v6,())
 else
 none
 else
 rec (v0,v1,v2,v3,wp .i64 (v4+1),v5,v6,())
 else
 rec (v0,v1,v2,v3,wp .i64 (v4+1),v5,v6,())
 else
 none
 else
 f14.L4 ((v0,v1,wp .i64 (0+1),(↑(ln v6):Int),0,v5,[],v6,()))
 ) (100000000000000000000) (x)
def f14.L6(x:LZ×List Bool×LZ×kt):Option (LZ×Unit) :=
 it (X:=LZ×List Bool×LZ×kt) (fun rec x =>
 bif decide (x.2.2.2.2.1<x.2.2.2.1) then
 bif ae x.2.2.2.2.1 (ln x.2.2.2.2.2.1) then
 rec (x.1,x.2.1,x.2.2.1,x.2.2.2.1,wp .i64 (x.2.2.2.2.1+1),ls x.2.2.2.2.2.1 (tn x.2.2.2.2.1) (-1),())
 else
 none
 else
 f14.L5 ((x.1,x.2.1,x.2.2.1,(↑(ln x.2.2.1):Int),0,x.2.2.2.2.2.1,[],()))
 ) (100000000000000000000) (x)
def f14(a0:LZ)(a1:List Bool)(a2:LZ):Option (LZ×Unit) :=
 f14.L6 ((a0,a1,a2,(↑(ln (rp 384 0)):Int),0,rp 384 0,()))
def f14.S:ah:=⟨⟨[(0,r8),(1,.c (.row .bool)),(2,.c (.row (.int .i64)))],[]⟩,[⟨[(0,ow 0)],[(0,.arr (.int .i64))]⟩],[],fun(a,b,c,_)=>f14 a b c⟩
theorem f14.sound:SO 14 f14.S:=so [b f41.sound,b f15.sound,b f42.sound] n0 [(26,⟨[(0,r8),(1,.c (.row .bool)),(7,ow 0),(10,ow 1),(13,n6),(17,n6),(63,ow 2),(64,n6),(65,n6),(70,.agg [i6,i6,i6,i6]),(71,n6)],[(0,.arr (.int .i64)),(1,.arr (.int .i64)),(2,.arr (.int .i64))]⟩)] [(4,⟨[(0,r8),(1,.c (.row .bool)),(2,.c (.row (.int .i64))),(7,ow 0),(20,n6),(21,n6)],[(0,.arr (.int .i64))]⟩),(10,⟨[(0,r8),(1,.c (.row .bool)),(7,ow 0),(9,ow 1),(28,.c (.row (.int .i64))),(29,n6),(30,n6)],[(0,.arr (.int .i64)),(1,.arr (.int .i64))]⟩),(20,⟨[(0,r8),(1,.c (.row .bool)),(7,ow 0),(10,ow 1),(13,n6),(63,ow 2),(64,n6),(65,n6)],[(0,.arr (.int .i64)),(1,.arr (.int .i64)),(2,.arr (.int .i64))]⟩),(23,⟨[(0,r8),(1,.c (.row .bool)),(7,ow 0),(10,ow 1),(13,n6),(63,ow 2),(64,n6),(65,n6),(70,.agg [i6,i6,i6,i6]),(71,n6)],[(0,.arr (.int .i64)),(1,.arr (.int .i64)),(2,.arr (.int .i64))]⟩)] [(0,⟨[(0,r8),(1,.c (.row .bool)),(7,ow 0),(9,ow 1),(13,n6)],[(0,.arr (.int .i64)),(1,.arr (.int .i64))]⟩)] 0 (by kernel_rfl) fun _=>by kernel_rfl
def f72.L1(x:LZ×T3):Option (Int×Unit) :=
 it (X:=LZ×T3) (fun rec x =>
 bif decide (x.2.2.1<(↑(ln x.1):Int)) then
 bif ae x.2.2.1 (ln x.1) then
 rec (x.1,cz x.2.1 (gd x.1 (tn x.2.2.1) 0),wp .i64 (x.2.2.1+1),())
 else
 none
 else
 some ((x.2.1,()))
 ) (100000000000000000000) (x)
def f72(a0:LZ):Option (Int×Unit) :=
 bif decide ((↑(ln a0):Int)<1) then
 none
 else
 bif ae 0 (ln a0) then
 f72.L1 ((a0,gd a0 0 0,1,()))
 else
 none
def f72.S:ah:=⟨⟨[(0,.c (.row (.int .i64)))],[]⟩,[⟨[(0,n6)],[]⟩],[],fun x=>f72 x.1⟩
theorem f72.sound:SO 72 f72.S:=so [] n0 [] [(6,⟨[(0,.c (.row (.int .i64))),(3,n6),(4,n6)],[]⟩)] [] 0 (by kernel_rfl) fun _=>by kernel_rfl
def f73.L1(x:LZ×Int×T3):Option (Int×Unit) :=
 it (X:=LZ×Int×T3) (fun rec x =>
 bif decide (x.2.2.2.1<x.2.2.1) then
 bif ae x.2.2.2.1 (ln x.1) then
 bif x.2.1==gd x.1 (tn x.2.2.2.1) 0 then
 some ((x.2.2.2.1,()))
 else
 rec (x.1,x.2.1,x.2.2.1,wp .i64 (x.2.2.2.1+1),())
 else
 none
 else
 some ((-1,()))
 ) (100000000000000000000) (x)
def f73(a0:LZ)(a1:Int):Option (Int×Unit) :=
 f73.L1 ((a0,a1,(↑(ln a0):Int),0,()))
def f73.S:ah:=⟨⟨[(0,.c (.row (.int .i64))),(1,n6)],[]⟩,[⟨[(0,n6)],[]⟩],[],fun x=>f73 x.1 x.2.1⟩
theorem f73.sound:SO 73 f73.S:=so [] n0 [] [(3,⟨[(0,.c (.row (.int .i64))),(1,n6),(7,n6),(8,n6)],[]⟩)] [] 0 (by kernel_rfl) fun _=>by kernel_rfl
def f37.L1(x:Int×Am):Option (Int×oN) :=
 it (X:=Int×Am) (fun rec x=>match x with
 | (v0,v1,v2,v3,v4,v5,v6,_) =>
 bif decide (v2<v1) then
 bif ae v2 (ln v6) then
 bif gd v6 (tn v2) 0==wp .i64 (Int.tdiv v0 2) then
 bif ae v2 (ln v5) then
 bif gd v5 (tn v2) 0==1 then
 bif ae v2 (ln v5) then
 some ((v3,v4,ls v5 (tn v2) 5,v6,()))
 else
 none
 else
 rec (v0,v1,wp .i64 (v2+1),v3,v4,v5,v6,())
 else
 none
 else
 rec (v0,v1,wp .i64 (v2+1),v3,v4,v5,v6,())
 else
 none
 else
 some ((v3,v4,v5,v6,()))
 ) (100000000000000000000) (x)
def f37(a0 a1 a2 a3:Int)(a4:LZ):Option (Int×oN) :=
 ob (f69 a0 a1) fun y0 =>
 bif ae y0.1 (ln a4) then
 ob (f69 a0 a1) fun y1 =>
 ob (f14 (ls a4 (tn y0.1) 3) [] [y1.1]) fun y2 =>
 ob (f72 y2.1) fun y3 =>
 ob (f73 y2.1 y3.1) fun y4 =>
 bif ae y4.1 (ln (ls a4 (tn y0.1) 3)) then
 ob (f36 ((ls (ls a4 (tn y0.1) 3) (tn y4.1) 4,[],[]),a2,a3,y2.1) 6 0 2) fun y5 =>
 bif y5.1 !=0 then
 some ((a2,a3,ls (ls a4 (tn y0.1) 3) (tn y4.1) 4,y2.1,()))
 else
 f37.L1 ((y3.1,(↑(ln y2.1):Int),0,a2,a3,ls (ls a4 (tn y0.1) 3) (tn y4.1) 4,y2.1,()))
 else
 none
 else
 none
def f37.S:ah:=⟨⟨[(0,pt 0),(1,.agg [i6,i6])],[(0,.box [.own 1,.nils,.nils,i6,i6,.nils]),(1,a8)]⟩,[⟨[],[(0,.box [.own 1,.nils,.nils,i6,i6,.own 2]),(1,a8),(2,.arr (.int .i64))]⟩],[0,1],fun(a,b,c,d,e,_)=>f37 a b c d e⟩
theorem f37.sound:SO 37 f37.S:=so [b f36.sound,b f69.sound,b f14.sound,b f72.sound,b f73.sound] n0 [] [(8,⟨[(0,pt 0),(4,n6),(50,ow 2),(51,n6),(52,n6)],[(0,.box [.own 1,.nils,.nils,i6,i6,.own 2]),(1,a8),(2,.arr (.int .i64))]⟩)] [] 2 (by kernel_rfl) fun _=>by kernel_rfl
def f129(a0:LZ)(a1:Int):Option (Bool×Unit) :=
 ob (f73 a0 a1) fun y0 =>
 some ((decide (y0.1≥0),()))
def f129.S:ah:=⟨⟨[(0,.c (.row (.int .i64))),(1,n6)],[]⟩,[⟨[(0,nb)],[]⟩],[],fun x=>f129 x.1 x.2.1⟩
theorem f129.sound:SO 129 f129.S:=so [b f73.sound] n0 [] [] [] 0 (by kernel_rfl) fun _=>by kernel_rfl
def f74.L1(x:((LZ×LE×LI)×Int×Int×LZ)×Int×LZ×LZ×kt):Option (LZ×Unit) :=
 it (X:=((LZ×LE×LI)×Int×Int×LZ)×Int×LZ×LZ×kt) (fun rec x=>match x with
 | (v0,v1,v2,v3,v4,v5,v6,_) =>
 bif decide (v5<v4) then
 bif ae v5 (ln v3) then
 bif ae v5 (ln v0.1.1) then
 bif gd v0.1.1 (tn v5) 0==1 then
 bif decide (gd v3 (tn v5) 0≥v1) then
 ob (f129 v2 v5) fun y0 =>
 bif !y0.1 then
 bif decide (ln v6+1≤aB 8) then
 rec (v0,v1,v2,v3,v4,wp .i64 (v5+1),v6++[v5],())
 else
 none
 else
 rec (v0,v1,v2,v3,v4,wp .i64 (v5+1),v6,())
 else
 rec (v0,v1,v2,v3,v4,wp .i64 (v5+1),v6,())
 else
 rec (v0,v1,v2,v3,v4,wp .i64 (v5+1),v6,())
 else
 none
 else
 none
 else
 some ((v6,()))
 ) (100000000000000000000) (x)
def f74(a0:(LZ×LE×LI)×Int×Int×LZ)(a1:Int)(a2:LZ):Option (LZ×Unit) :=
 f74.L1 ((a0,a1,a2,a0.2.2.2,(↑(ln a0.2.2.2):Int),0,[],()))
def f74.S:ah:=⟨⟨[(0,.c (.bptr (.prod (.prod (.row (.int .u8)) (.prod (.row tE) (.row tI))) (.prod (.int .i64) (.prod (.int .i64) (.row (.int .i64))))))),(1,n6),(2,.c (.row (.int .i64)))],[]⟩,[⟨[(0,ow 0)],[(0,.arr (.int .i64))]⟩],[],fun(a,b,c,_)=>f74 a b c⟩
theorem f74.sound:SO 74 f74.S:=so [b f129.sound] n0 [] [(4,⟨[(0,.c (.bptr (.prod (.prod (.row (.int .u8)) (.prod (.row tE) (.row tI))) (.prod (.int .i64) (.prod (.int .i64) (.row (.int .i64))))))),(1,n6),(2,.c (.row (.int .i64))),(7,ow 0),(13,.c (.row (.int .i64))),(14,n6),(15,n6)],[(0,.arr (.int .i64))]⟩)] [] 0 (by kernel_rfl) fun _=>by kernel_rfl
def f75(a0:Int):Option (T1) :=
 ob (α:=FO⊕T1) (
 bif a0==1 then
 some (il (0,0,0,0,0,0,0,0,0,0,0,a0,0,0,0,0,20,0,5,1,0,0,()))
 else
 bif a0==2 then
 some (il (0,0,0,0,0,0,0,0,0,0,0,a0,0,0,0,0,4,0,2,0,0,0,()))
 else
 bif a0==3 then
 some (il (0,0,0,0,0,0,0,0,0,0,0,a0,0,0,0,0,9,0,4,1,0,0,()))
 else
 bif a0==4 then
 some (il (0,0,0,0,0,0,0,0,0,0,0,a0,0,0,0,0,6,0,3,0,0,0,()))
 else
 some (ir (0,0,0,0,0,0,0,0,0,0,0,()))
 ) fun y0 =>
 el (fun y1=>match y1 with
 | (_,_,_,_,_,_,_,_,_,_,_,u1_11,u1_12,u1_13,u1_14,u1_15,u1_16,_,u1_18,u1_19,u1_20,u1_21,_) =>
 some ((u1_11,u1_12,u1_13,u1_14,u1_15,u1_16,u1_16,u1_18,u1_19,u1_20,u1_21,()))
 ) (fun z2 =>
 some (z2)
 ) (y0)
def f75.S:ah:=⟨⟨[(0,n6)],[]⟩,[⟨[(0,eS)],[]⟩],[],fun x=>f75 x.1⟩
theorem f75.sound:SO 75 f75.S:=so [] n0 [(13,⟨[(2,pt 0),(3,pt 1)],[(0,bz),(1,bz)]⟩)] [] [] 0 (by kernel_rfl) fun _=>by kernel_rfl
def f38.L1(x:Int×Int×Int×Int×LZ×xt):Option (Int×Int×xt) :=
 it (X:=Int×Int×Int×Int×LZ×xt) (fun rec x=>match x with
 | (v0,v1,v2,v3,v4,v5,v6,v7,_) =>
 bif decide (v1<v0) then
 ob (f74 ((v4,v7,[]),v2,v3,v5) 4 v6) fun y0 =>
 bif (↑(ln y0.1):Int)==0 then
 some ((v2,v3,v4,v5,v7,()))
 else
 ob (f36 ((v4,v7,[]),v2,v3,v5) (wp .i64 (7+v1)) 0 (↑(ln y0.1):Int)) fun y1 =>
 bif ae y1.1 (ln y0.1) then
 bif decide (ln v6+1≤aB 8) then
 ob (f36 ((v4,v7,[]),v2,v3,v5) (wp .i64 (16+v1)) 1 (aX (wp .i64 (v3+1)) 3)) fun y2 =>
 ob (f75 (wp .i64 (2+y2.1))) fun y3 =>
 bif decide (ln v7+1≤aB 88) then
 rec (v0,wp .i64 (v1+1),v2,v3,v4,v5,v6++[gd y0.1 (tn y1.1) 0],v7++[(y3.1,y3.2.1,y3.2.2.1,Int.tmod (gd y0.1 (tn y1.1) 0) 24,wp .i64 (Int.tdiv (gd y0.1 (tn y1.1) 0) 24),y3.2.2.2.2.2.1,y3.2.2.2.2.2.2.1,y3.2.2.2.2.2.2.2.1,y3.2.2.2.2.2.2.2.2.1,y3.2.2.2.2.2.2.2.2.2.1,y3.2.2.2.2.2.2.2.2.2.2.1)],())
 else
 none
 else
 none
 else
 none
 else
 some ((v2,v3,v4,v5,v7,()))
 ) (100000000000000000000) (x)
def f38(a0 a1:Int)(a2 a3:LZ):Option (Int×Int×xt) :=
 f38.L1 ((wp .i64 (a1+2),0,a0,a1,a2,a3,[],[],()))
def f38.S:ah:=⟨⟨[(0,pt 0)],[(0,.box [.own 1,.nils,.nils,i6,i6,.own 2]),(1,a8),(2,.arr (.int .i64))]⟩,[⟨[],[(0,.box [.own 1,.own 3,.nils,i6,i6,.own 2]),(1,a8),(2,.arr (.int .i64)),(3,aE)]⟩],[0,1,2],fun(a,b,c,d,_)=>f38 a b c d⟩
theorem f38.sound:SO 38 f38.S:=so [b f36.sound,b f74.sound,b f75.sound] n0 [] [(3,⟨[(0,pt 0),(2,ow 3),(11,n6),(12,n6)],[(0,.box [.own 1,.own 4,.nils,i6,i6,.own 2]),(1,a8),(2,.arr (.int .i64)),(3,.arr (.int .i64)),(4,aE)]⟩)] [] 3 (by kernel_rfl) fun _=>by kernel_rfl
def f40(a0:LZ)(a1:Int):Option (Int×Unit):=Gu a0 a1
def f40.S:ah:=⟨Az,gR,[],fun x=>f40 x.1 x.2.1⟩
def f40.E:Env:=⟨bQ,[],[],[],[],[],0,[],1⟩
theorem f40.sound:Sound Go.Proofs.Tryz.prog 40 f40.S:=vV (fn:=Go.Proofs.Tryz.f40) (fn2:=Go.Proofs.Tryz.f76) (f2:=76) (t:=23) (u:=5) (q:=3) f40.E (by kernel_rfl) (by kernel_rfl) (by kernel_rfl) lQ (by kernel_rfl) (by kernel_rfl) (by kernel_rfl) (by kernel_rfl) (by kernel_rfl) (by kernel_rfl) ⟨fx,bK.nil _,FnsOk.nil⟩ rfl (by intro l c A K;kernel_rfl) (by intro l c n;kernel_rfl)
def f13(a0:LZ)(a1:Int):Option (Int×Unit) :=
 bif decide (a1<0) then
 some ((-1,()))
 else
 bif decide (a1>255) then
 some ((-1,()))
 else
 bif decide ((0:Int)≤0∧0≤aX (↑(ln a0):Int) 384∧aX (↑(ln a0):Int) 384≤(↑(ln a0):Int)) then
 ob (f40 (List.drop 0 (List.take (tn (aX (↑(ln a0):Int) 384)) a0)) (wp .u8 a1)) fun y0 =>
 some ((y0.1,()))
 else
 none
def f13.S:ah:=⟨⟨[(0,r8),(1,n6)],[]⟩,[⟨[(0,n6)],[]⟩],[],fun x=>f13 x.1 x.2.1⟩
theorem f13.sound:SO 13 f13.S:=so [b f40.sound] n0 [] [] [] 0 (by kernel_rfl) fun _=>by kernel_rfl
def f39.L1(x:Int×AU):Option (AU) :=
 it (X:=Int×AU) (fun rec x=>match x with
 | (v0,v1,v2,v3,v4,v5,v6,_) =>
 bif decide (v0<3) then
 ob (f36 ((v3,v4,v6),v1,v2,v5) (wp .i64 (50+v0)) 1 3) fun y0 =>
 bif decide (ln v6+1≤aB 32) then
 rec (wp .i64 (v0+1),v1,v2,v3,v4,v5,v6++[(wp .i64 (1+y0.1),4,v0,0)],())
 else
 none
 else
 some ((v1,v2,v3,v4,v5,v6,()))
 ) (100000000000000000000) (x)
def f39.L2(x:Int×Int×Int×LZ×LE×LZ×LZ×LI×Unit):Option (AU) :=
 it (X:=Int×Int×Int×LZ×LE×LZ×LZ×LI×Unit) (fun rec x=>match x with
 | (v0,v1,v2,v3,v4,v5,v6,v7,_) =>
 bif decide (v0<4) then
 ob (f74 ((v3,v4,v7),v1,v2,v5) (-1) v6) fun y0 =>
 bif (↑(ln y0.1):Int)==0 then
 rec (wp .i64 (v0+1),v1,v2,v3,v4,v5,v6,v7,())
 else
 ob (f36 ((v3,v4,v7),v1,v2,v5) (wp .i64 (40+v0)) 0 (↑(ln y0.1):Int)) fun y1 =>
 bif ae y1.1 (ln y0.1) then
 bif decide (ln v6+1≤aB 8) then
 ob (f36 ((v3,v4,v7),v1,v2,v5) (wp .i64 (40+v0)) 1 4) fun y2 =>
 bif decide (ln v7+1≤aB 32) then
 rec (wp .i64 (v0+1),v1,v2,v3,v4,v5,v6++[gd y0.1 (tn y1.1) 0],v7++[(wp .i64 (1+y2.1),1,Int.tmod (gd y0.1 (tn y1.1) 0) 24,wp .i64 (Int.tdiv (gd y0.1 (tn y1.1) 0) 24))],())
 else
 none
 else
 none
 else
 none
 else
 ob (f13 v3 5) fun y3 =>
 bif decide (y3.1<0) then
 some ((v1,v2,v3,v4,v5,v7,()))
 else
 f39.L1 ((0,v1,v2,v3,v4,v5,v7,()))
 ) (100000000000000000000) (x)
def f39(a0 a1:Int)(a2:LZ)(a3:LE)(a4:LZ):Option (AU) :=
 f39.L2 ((0,a0,a1,a2,a3,a4,[],[],()))
def f39.S:ah:=⟨⟨[(0,pt 0)],[(0,.box [.own 1,.own 2,.nils,i6,i6,.own 3]),(1,a8),(2,aE),(3,.arr (.int .i64))]⟩,[⟨[],[(0,.box [.own 1,.own 2,.own 4,i6,i6,.own 3]),(1,a8),(2,aE),(3,.arr (.int .i64)),(4,aI)]⟩],[0,1,2,3],fun(a,b,c,d,e,_)=>f39 a b c d e⟩
theorem f39.sound:SO 39 f39.S:=so [b f36.sound,b f74.sound,b f13.sound] n0 [] [(3,⟨[(0,pt 0),(2,ow 4),(7,n6)],[(0,.box [.own 1,.own 2,.own 5,i6,i6,.own 3]),(1,a8),(2,aE),(3,.arr (.int .i64)),(4,.arr (.int .i64)),(5,aI)]⟩),(13,⟨[(0,pt 0),(58,n6)],[(0,.box [.own 1,.own 2,.own 4,i6,i6,.own 3]),(1,a8),(2,aE),(3,.arr (.int .i64)),(4,aI)]⟩)] [] 4 (by kernel_rfl) fun _=>by kernel_rfl
def f11.L1(x:Dn):Option (Int×T9) :=
 it (X:=Dn) (fun rec x=>match x with
 | (v0,v1,v2,v3,v4,v5,v6,v7,v8,v9,v10,v11,v12,v13,v14,v15,_) =>
 bif decide (v0<6) then
 bif ae (wp .i64 (v0-1)) 6 then
 bif ae v0 6 then
 ob (f36 ((v15,[],[]),v1,v2,[]) v0 4 2) fun y0 =>
 ob (f35 (gd [v3,v5,v7,v9,v11,v13] (tn (wp .i64 (v0-1))) 0) (gd [v4,v6,v8,v10,v12,v14] (tn (wp .i64 (v0-1))) 0) (gd [v3,v5,v7,v9,v11,v13] (tn v0) 0) (gd [v4,v6,v8,v10,v12,v14] (tn v0) 0) (y0.1==0) v1 v2 v15) fun y1 =>
 rec (wp .i64 (v0+1),y1.1,y1.2.1,v3,v4,v5,v6,v7,v8,v9,v10,v11,v12,v13,v14,y1.2.2.1,())
 else
 none
 else
 none
 else
 ob (f37 v3 v4 v1 v2 v15) fun y2 =>
 ob (f38 y2.1 y2.2.1 y2.2.2.1 y2.2.2.2.1) fun y3 =>
 ob (f39 y3.1 y3.2.1 y3.2.2.1 y3.2.2.2.2.1 y3.2.2.2.1) fun y4 =>
 some ((0,y4.2.2.1,y4.2.2.2.1,y4.2.2.2.2.2.1,()))
 ) (100000000000000000000) (x)
def f11.L2(x:Dn):Option (Int×T9) :=
 it (X:=Dn) (fun rec x=>match x with
 | (v0,v1,v2,v3,v4,v5,v6,v7,v8,v9,v10,v11,v12,v13,v14,v15,_) =>
 bif decide (v0<6) then
 ob (f34 v0 v1 v2 v15) fun y0 =>
 bif ae v0 6 then
 rec (wp .i64 (v0+1),y0.2.2.1,y0.2.2.2.1,if tn v0=0/2 then y0.1 else v3,if tn v0=(0+1)/2 then y0.2.1 else v4,if tn v0=(0+1+1)/2 then y0.1 else v5,if tn v0=(0+1+1+1)/2 then y0.2.1 else v6,if tn v0=(0+1+1+1+1)/2 then y0.1 else v7,if tn v0=(0+1+1+1+1+1)/2 then y0.2.1 else v8,if tn v0=(0+1+1+1+1+1+1)/2 then y0.1 else v9,if tn v0=(0+1+1+1+1+1+1+1)/2 then y0.2.1 else v10,if tn v0=(0+1+1+1+1+1+1+1+1)/2 then y0.1 else v11,if tn v0=(0+1+1+1+1+1+1+1+1+1)/2 then y0.2.1 else v12,if tn v0=(0+1+1+1+1+1+1+1+1+1+1)/2 then y0.1 else v13,if tn v0=(0+1+1+1+1+1+1+1+1+1+1+1)/2 then y0.2.1 else v14,y0.2.2.2.2.1,())
 else
 none
 else
 f11.L1 ((1,v1,v2,v3,v4,v5,v6,v7,v8,v9,v10,v11,v12,v13,v14,v15,()))
 ) (100000000000000000000) (x)
def f11(a0 a1:Int):Option (Int×T9) :=
 bif decide (a1<1) then
 some ((1,[],[],[],()))
 else
 bif decide (a1>3) then
 some ((1,[],[],[],()))
 else
 f11.L2 ((0,a0,a1,0,0,0,0,0,0,0,0,0,0,0,0,rp 384 0,()))
def f11.S:ah:=⟨⟨[(0,n6),(1,n6)],[]⟩,[⟨[(0,.agg [.own 0,.own 1,.own 2]),(1,n6)],[(0,a8),(1,aE),(2,aI)]⟩],[],fun x=>f11 x.1 x.2.1⟩
theorem f11.sound:SO 11 f11.S:=so [b f36.sound,b f34.sound,b f35.sound,b f37.sound,b f38.sound,b f39.sound] n0 [] [(7,⟨[(4,pt 0),(6,pt 1),(7,pt 2),(23,n6)],[(0,.box [.nils,.nils,.nils]),(1,.box [.own 3,.nils,.nils,i6,i6,.nils]),(2,.box [i6,i6,i6,i6,i6,i6,i6,i6,i6,i6,i6,i6]),(3,a8)]⟩),(12,⟨[(4,pt 0),(6,pt 1),(7,pt 2),(9,n6)],[(0,.box [.nils,.nils,.nils]),(1,.box [.own 3,.nils,.nils,i6,i6,.nils]),(2,.box [i6,i6,i6,i6,i6,i6,i6,i6,i6,i6,i6,i6]),(3,a8)]⟩)] [] 0 (by kernel_rfl) fun _=>by kernel_rfl
def f108(a0:(Gb)×Bool×Bool):Option (Int×Int×Bool×Unit) :=
 ob (f13 a0.1.2.2.2.2.1 3) fun y0 =>
 some ((Int.tmod y0.1 24,wp .i64 (Int.tdiv y0.1 24),decide (y0.1≥0),()))
def f108.S:ah:=⟨⟨[(0,.c (.bptr (.prod (.prod (.int .i64) (.prod (.int .i64) (.prod (.int .i64) (.prod (.int .i64) (.prod (.row (.int .u8)) (.prod (.row tE) (.prod (.row tI) tI))))))) (.prod .bool .bool))))],[]⟩,[⟨[(0,n6),(1,n6),(2,nb)],[]⟩],[],fun x=>f108 x.1⟩
theorem f108.sound:SO 108 f108.S:=so [b f13.sound] n0 [] [] [] 0 (by kernel_rfl) fun _=>by kernel_rfl
def f162(a0:LE):Option (LE×Unit) :=
 bif decide ((0:Int)≤0∧0≤aX (↑(ln a0):Int) 32∧aX (↑(ln a0):Int) 32≤(↑(ln a0):Int)) then
 some ((List.drop 0 (List.take (tn (aX (↑(ln a0):Int) 32)) a0),()))
 else
 none
def f162.S:ah:=⟨⟨[(0,rE)],[]⟩,[⟨[(0,rE)],[]⟩],[],fun x=>f162 x.1⟩
theorem f162.sound:SO 162 f162.S:=so [] n0 [] [] [] 0 (by kernel_rfl) fun _=>by kernel_rfl
def f155(a0 a1 a2 a3 a4 a5 a6 a7 a8 a9 a10 a11 a12:Int):Option (Bool×Unit) :=
 bif a1==1 then
 some ((a3==a12,()))
 else
 some ((false,()))
def f155.S:ah:=⟨⟨[(0,n6),(1,eS),(2,.c (.bptr (.int .i64)))],[]⟩,[⟨[(0,nb)],[]⟩],[],fun(a,b,c,d,e,f,g,h,i,j,k,l,m,_)=>f155 a b c d e f g h i j k l m⟩
theorem f155.sound:SO 155 f155.S:=so [] n0 [] [] [] 0 (by kernel_rfl) fun _=>by kernel_rfl
def f153.L1(x:LE×Int×T3):Option (T3) :=
 it (X:=LE×Int×T3) (fun rec x =>
 bif decide (x.2.2.1<x.2.1) then
 bif ae x.2.2.1 (ln x.1) then
 ob (f155 x.2.2.1 (gd x.1 (tn x.2.2.1) zE).1 (gd x.1 (tn x.2.2.1) zE).2.1 (gd x.1 (tn x.2.2.1) zE).2.2.1 (gd x.1 (tn x.2.2.1) zE).2.2.2.1 (gd x.1 (tn x.2.2.1) zE).2.2.2.2.1 (gd x.1 (tn x.2.2.1) zE).2.2.2.2.2.1 (gd x.1 (tn x.2.2.1) zE).2.2.2.2.2.2.1 (gd x.1 (tn x.2.2.1) zE).2.2.2.2.2.2.2.1 (gd x.1 (tn x.2.2.1) zE).2.2.2.2.2.2.2.2.1 (gd x.1 (tn x.2.2.1) zE).2.2.2.2.2.2.2.2.2.1 (gd x.1 (tn x.2.2.1) zE).2.2.2.2.2.2.2.2.2.2 x.2.2.2.1) fun y0 =>
 bif y0.1 then
 some ((x.2.2.1,x.2.2.2.1,()))
 else
 rec (x.1,x.2.1,wp .i64 (x.2.2.1+1),x.2.2.2.1,())
 else
 none
 else
 some ((-1,x.2.2.2.1,()))
 ) (100000000000000000000) (x)
def f153(a0:LE)(a1:Int):Option (T3) :=
 ob (f162 a0) fun y0 =>
 f153.L1 ((y0.1,(↑(ln y0.1):Int),0,a1,()))
def f153.S:ah:=⟨⟨[(0,rE),(1,.c (.fn 155 [0]))],[(0,.box [i6])]⟩,[⟨[(0,n6)],[(0,.box [i6])]⟩],[0],fun x=>f153 x.1 x.2.1⟩
theorem f153.sound:SO 153 f153.S:=so [b f162.sound,b f155.sound] n0 [] [(3,⟨[(1,.c (.fn 155 [0])),(8,rE),(9,n6),(10,n6)],[(0,.box [i6])]⟩)] [] 1 (by kernel_rfl) fun _=>by kernel_rfl
def f97(a0:LE)(a1:Int):Option (Int×Unit) :=
 ob (f153 a0 a1) fun y0 =>
 some ((y0.1,()))
def f97.S:ah:=⟨⟨[(0,rE),(1,n6)],[]⟩,[⟨[(0,n6)],[]⟩],[],fun x=>f97 x.1 x.2.1⟩
theorem f97.sound:SO 97 f97.S:=so [b f153.sound] n0 [] [] [] 0 (by kernel_rfl) fun _=>by kernel_rfl
def f43(a0 a1:Int):Option (Int×Unit) :=
 bif decide (a0<0) then
 some ((-1,()))
 else
 bif decide (a0≥24) then
 some ((-1,()))
 else
 bif decide (a1<0) then
 some ((-1,()))
 else
 bif decide (a1≥16) then
 some ((-1,()))
 else
 some ((wp .i64 (wp .i64 (a1*24)+a0),()))
def f43.S:ah:=⟨⟨[(0,n6),(1,n6)],[]⟩,[⟨[(0,n6)],[]⟩],[],fun x=>f43 x.1 x.2.1⟩
theorem f43.sound:SO 43 f43.S:=so [] n0 [] [] [] 0 (by kernel_rfl) fun _=>by kernel_rfl
def f154(a0 a1 a2 a3 a4 a5 a6 a7 a8 a9 a10 a11 a12 a13:Int):Option (Bool×Unit) :=
 bif a1 !=0 then
 some ((a4==a12&&(a5==a13&&true),()))
 else
 some ((false,()))
def f154.S:ah:=⟨⟨[(0,n6),(1,eS),(2,.c (.bptr (.int .i64))),(3,.c (.bptr (.int .i64)))],[]⟩,[⟨[(0,nb)],[]⟩],[],fun(a,b,c,d,e,f,g,h,i,j,k,l,m,n,_)=>f154 a b c d e f g h i j k l m n⟩
theorem f154.sound:SO 154 f154.S:=so [] (bK.cons GK n0) [] [] [] 0 (by kernel_rfl) fun _=>by kernel_rfl
def f153_1.L1(x:LE×fR):Option (Int×T3) :=
 it (X:=LE×fR) (fun rec x =>
 bif decide (x.2.2.1<x.2.1) then
 bif ae x.2.2.1 (ln x.1) then
 ob (f154 x.2.2.1 (gd x.1 (tn x.2.2.1) zE).1 (gd x.1 (tn x.2.2.1) zE).2.1 (gd x.1 (tn x.2.2.1) zE).2.2.1 (gd x.1 (tn x.2.2.1) zE).2.2.2.1 (gd x.1 (tn x.2.2.1) zE).2.2.2.2.1 (gd x.1 (tn x.2.2.1) zE).2.2.2.2.2.1 (gd x.1 (tn x.2.2.1) zE).2.2.2.2.2.2.1 (gd x.1 (tn x.2.2.1) zE).2.2.2.2.2.2.2.1 (gd x.1 (tn x.2.2.1) zE).2.2.2.2.2.2.2.2.1 (gd x.1 (tn x.2.2.1) zE).2.2.2.2.2.2.2.2.2.1 (gd x.1 (tn x.2.2.1) zE).2.2.2.2.2.2.2.2.2.2 x.2.2.2.1 x.2.2.2.2.1) fun y0 =>
 bif y0.1 then
 some ((x.2.2.1,x.2.2.2.1,x.2.2.2.2.1,()))
 else
 rec (x.1,x.2.1,wp .i64 (x.2.2.1+1),x.2.2.2.1,x.2.2.2.2.1,())
 else
 none
 else
 some ((-1,x.2.2.2.1,x.2.2.2.2.1,()))
 ) (100000000000000000000) (x)
def f153_1(a0:LE)(a1 a2:Int):Option (Int×T3) :=
 ob (f162 a0) fun y0 =>
 f153_1.L1 ((y0.1,(↑(ln y0.1):Int),0,a1,a2,()))
def f153_1.S:ah:=⟨⟨[(0,rE),(1,.c (.fn 154 [0,1]))],[(0,.box [i6]),(1,.box [i6])]⟩,[⟨[(0,n6)],[(0,.box [i6]),(1,.box [i6])]⟩],[0,1],fun(a,b,c,_)=>f153_1 a b c⟩
theorem f153_1.sound:SO 153 f153_1.S:=so [b f162.sound,b f154.sound] n0 [] [(3,⟨[(1,.c (.fn 154 [0,1])),(8,rE),(9,n6),(10,n6)],[(0,.box [i6]),(1,.box [i6])]⟩)] [] 2 (by kernel_rfl) fun _=>by kernel_rfl
def f96(a0:LE)(a1 a2:Int):Option (Int×Unit) :=
 ob (f153_1 a0 a1 a2) fun y0 =>
 some ((y0.1,()))
def f96.S:ah:=⟨⟨[(0,rE),(1,n6),(2,n6)],[]⟩,[⟨[(0,n6)],[]⟩],[],fun(a,b,c,_)=>f96 a b c⟩
theorem f96.sound:SO 96 f96.S:=so [b f153_1.sound] n0 [] [] [] 0 (by kernel_rfl) fun _=>by kernel_rfl
def f109.L1(x:LE×Int×kt):Option (Int×Unit) :=
 it (X:=LE×Int×kt) (fun rec x =>
 bif decide (x.2.2.2.1<x.2.2.1) then
 bif ae x.2.2.2.1 (ln x.2.2.2.2.1) then
 bif decide (gd x.2.2.2.2.1 (tn x.2.2.2.1) 0≥0) then
 bif decide (x.2.1<0) then
 ob (f96 x.1 (Int.tmod x.2.2.2.1 24) (wp .i64 (Int.tdiv x.2.2.2.1 24))) fun y0 =>
 bif decide (y0.1<0) then
 rec (x.1,x.2.2.2.1,x.2.2.1,wp .i64 (x.2.2.2.1+1),x.2.2.2.2.1,())
 else
 rec (x.1,x.2.1,x.2.2.1,wp .i64 (x.2.2.2.1+1),x.2.2.2.2.1,())
 else
 bif ae x.2.1 (ln x.2.2.2.2.1) then
 bif decide (gd x.2.2.2.2.1 (tn x.2.2.2.1) 0<gd x.2.2.2.2.1 (tn x.2.1) 0) then
 ob (f96 x.1 (Int.tmod x.2.2.2.1 24) (wp .i64 (Int.tdiv x.2.2.2.1 24))) fun y1 =>
 bif decide (y1.1<0) then
 rec (x.1,x.2.2.2.1,x.2.2.1,wp .i64 (x.2.2.2.1+1),x.2.2.2.2.1,())
 else
 rec (x.1,x.2.1,x.2.2.1,wp .i64 (x.2.2.2.1+1),x.2.2.2.2.1,())
 else
 rec (x.1,x.2.1,x.2.2.1,wp .i64 (x.2.2.2.1+1),x.2.2.2.2.1,())
 else
 none
 else
 rec (x.1,x.2.1,x.2.2.1,wp .i64 (x.2.2.2.1+1),x.2.2.2.2.1,())
 else
 none
 else
 some ((x.2.1,()))
 ) (100000000000000000000) (x)
def f109(a0:LZ)(a1:LE)(a2 a3:Int):Option (Int×Unit) :=
 ob (f43 a2 a3) fun y0 =>
 ob (f14 a0 [] [y0.1]) fun y1 =>
 f109.L1 ((a1,-1,(↑(ln y1.1):Int),0,y1.1,()))
def f109.S:ah:=⟨⟨[(0,r8),(1,rE),(2,n6),(3,n6)],[]⟩,[⟨[(0,n6)],[]⟩],[],fun(a,b,c,d,_)=>f109 a b c d⟩
theorem f109.sound:SO 109 f109.S:=so [b f14.sound,b f43.sound,b f96.sound] n0 [] [(5,⟨[(1,rE),(9,n6),(10,ow 0),(19,ow 0),(20,n6),(21,n6)],[(0,.arr (.int .i64))]⟩)] [] 0 (by kernel_rfl) fun _=>by kernel_rfl
def f100.L1(x:Int×Int×Fy):Option (T2) :=
 it (X:=Int×Int×Fy) (fun rec x=>match x with
 | (v0,v1,v2,v3,v4,v5,v6,v7,v8,v9,v10,v11,v12,v13,v14,v15,v16,_) =>
 bif decide (v2<4) then
 ob (f97 v14 v2) fun y0 =>
 bif decide (y0.1<0) then
 rec (v0,v1,wp .i64 (v2+1),v3,v4,v5,v6,v7,v8,v9,v10,v11,v12,v13,v14,v15,v16,())
 else
 bif ae y0.1 (ln v14) then
 ob (α:=Int×Int×Int×Nat×Fy⊕T2) (
 ob (f109 v13 v16 v0 v1) fun y1 =>
 bif decide (y1.1≥0) then
 let s0:LE:=ls v14 (tn y0.1) ((gd v14 (tn y0.1) zE).1,(gd v14 (tn y0.1) zE).2.1,(gd v14 (tn y0.1) zE).2.2.1,Int.tmod y1.1 24,(gd v14 (tn y0.1) zE).2.2.2.2.1,(gd v14 (tn y0.1) zE).2.2.2.2.2.1,(gd v14 (tn y0.1) zE).2.2.2.2.2.2.1,(gd v14 (tn y0.1) zE).2.2.2.2.2.2.2.1,(gd v14 (tn y0.1) zE).2.2.2.2.2.2.2.2.1,(gd v14 (tn y0.1) zE).2.2.2.2.2.2.2.2.2.1,(gd v14 (tn y0.1) zE).2.2.2.2.2.2.2.2.2.2)
 let s1:LE:=ls s0 (tn y0.1) ((gd s0 (tn y0.1) zE).1,(gd s0 (tn y0.1) zE).2.1,(gd s0 (tn y0.1) zE).2.2.1,(gd s0 (tn y0.1) zE).2.2.2.1,wp .i64 (Int.tdiv y1.1 24),(gd s0 (tn y0.1) zE).2.2.2.2.2.1,(gd s0 (tn y0.1) zE).2.2.2.2.2.2.1,(gd s0 (tn y0.1) zE).2.2.2.2.2.2.2.1,(gd s0 (tn y0.1) zE).2.2.2.2.2.2.2.2.1,(gd s0 (tn y0.1) zE).2.2.2.2.2.2.2.2.2.1,(gd s0 (tn y0.1) zE).2.2.2.2.2.2.2.2.2.2)
 some (il (v0,v1,y0.1,tn y0.1,v2,v3,v4,v5,v6,v7,v8,v9,v10,v11,v12,v13,s1,v15,v16,()))
 else
 some (il (v0,v1,y0.1,tn y0.1,v2,v3,v4,v5,v6,v7,v8,v9,v10,v11,v12,v13,v14,v15,v16,()))
 ) fun y2 =>
 el (fun y3=>match y3 with
 | (u3_0,u3_1,u3_2,u3_3,u3_4,u3_5,u3_6,u3_7,u3_8,u3_9,u3_10,u3_11,u3_12,u3_13,u3_14,u3_15,u3_16,u3_17,u3_18,_) =>
 bif ae u3_2 (ln u3_18) then
 let s0:LE:=ls u3_18 (tn u3_2) ((gd u3_16 u3_3 zE).1,(gd u3_16 u3_3 zE).2.1,(gd u3_16 u3_3 zE).2.2.1,(gd u3_16 u3_3 zE).2.2.2.1,(gd u3_16 u3_3 zE).2.2.2.2.1,(gd u3_16 u3_3 zE).2.2.2.2.2.1,(gd u3_16 u3_3 zE).2.2.2.2.2.2.1,(gd u3_16 u3_3 zE).2.2.2.2.2.2.2.1,(gd u3_16 u3_3 zE).2.2.2.2.2.2.2.2.1,(gd u3_16 u3_3 zE).2.2.2.2.2.2.2.2.2.1,(gd u3_16 u3_3 zE).2.2.2.2.2.2.2.2.2.2)
 rec (u3_0,u3_1,wp .i64 (u3_4+1),u3_5,u3_6,u3_7,u3_8,u3_9,u3_10,u3_11,u3_12,u3_13,u3_14,u3_15,u3_16,u3_17,s0,())
 else
 none
 ) (fun z4 =>
 some (z4)
 ) (y2)
 else
 none
 else
 some ((v3,v4,v5,v6,v7,v8,v9,v10,v11,v12,v13,v14,v15,()))
 ) (100000000000000000000) (x)
def f100(a0 a1 a2 a3 a4 a5 a6 a7:Int)(a8 a9:Bool)(a10:LZ)(a11:LE)(a12:LI):Option (T2) :=
 ob (f108 ((a0,a1,a2,a3,a10,a11,a12,a4,a5,a6,a7),a8,a9)) fun y0 =>
 f100.L1 ((y0.1,y0.2.1,0,a0,a1,a2,a3,a4,a5,a6,a7,a8,a9,a10,a11,a12,rp 32 zE,()))
def f100.S:ah:=⟨⟨[(0,pt 0)],[(0,bx (.own 1) (.own 2) (.own 3)),(1,a8),(2,aE),(3,aI)]⟩,[⟨[],[(0,bx (.own 1) (.own 2) (.own 3)),(1,a8),(2,aE),(3,aI)]⟩],[0,1,2,3],fun(a,b,c,d,e,f,g,h,i,j,k,l,m,_)=>f100 a b c d e f g h i j k l m⟩
theorem f100.sound:SO 100 f100.S:=so [b f108.sound,b f97.sound,b f109.sound] n0 [(12,⟨[(0,pt 0),(2,n6),(3,n6),(5,ow 4),(7,n6),(8,.c (.eptr 2 0)),(17,n6)],[(0,bx (.own 1) (.own 2) (.own 3)),(1,a8),(2,aE),(3,aI),(4,aE)]⟩)] [(4,⟨[(0,pt 0),(2,n6),(3,n6),(5,ow 4),(17,n6)],[(0,bx (.own 1) (.own 2) (.own 3)),(1,a8),(2,aE),(3,aI),(4,aE)]⟩)] [] 4 (by kernel_rfl) fun _=>by kernel_rfl
def f175(a0 a1 a2 a3 a4 a5 a6 a7 a8 a9 a10 a11:Int):Option (Bool×Unit) :=
 some ((a1==0,()))
def f175.S:ah:=⟨⟨[(0,n6),(1,eS)],[]⟩,[⟨[(0,nb)],[]⟩],[],fun(a,b,c,d,e,f,g,h,i,j,k,l,_)=>f175 a b c d e f g h i j k l⟩
theorem f175.sound:SO 175 f175.S:=so [] n0 [] [] [] 0 (by kernel_rfl) fun _=>by kernel_rfl
def f153_2.L1(x:LE×T3):Option (Int×Unit) :=
 it (X:=LE×T3) (fun rec x =>
 bif decide (x.2.2.1<x.2.1) then
 bif ae x.2.2.1 (ln x.1) then
 ob (f175 x.2.2.1 (gd x.1 (tn x.2.2.1) zE).1 (gd x.1 (tn x.2.2.1) zE).2.1 (gd x.1 (tn x.2.2.1) zE).2.2.1 (gd x.1 (tn x.2.2.1) zE).2.2.2.1 (gd x.1 (tn x.2.2.1) zE).2.2.2.2.1 (gd x.1 (tn x.2.2.1) zE).2.2.2.2.2.1 (gd x.1 (tn x.2.2.1) zE).2.2.2.2.2.2.1 (gd x.1 (tn x.2.2.1) zE).2.2.2.2.2.2.2.1 (gd x.1 (tn x.2.2.1) zE).2.2.2.2.2.2.2.2.1 (gd x.1 (tn x.2.2.1) zE).2.2.2.2.2.2.2.2.2.1 (gd x.1 (tn x.2.2.1) zE).2.2.2.2.2.2.2.2.2.2) fun y0 =>
 bif y0.1 then
 some ((x.2.2.1,()))
 else
 rec (x.1,x.2.1,wp .i64 (x.2.2.1+1),())
 else
 none
 else
 some ((-1,()))
 ) (100000000000000000000) (x)
def f153_2(a0:LE):Option (Int×Unit) :=
 ob (f162 a0) fun y0 =>
 f153_2.L1 ((y0.1,(↑(ln y0.1):Int),0,()))
def f153_2.S:ah:=⟨⟨[(0,rE),(1,.c (.fn 175 []))],[]⟩,[⟨[(0,n6)],[]⟩],[],fun x=>f153_2 x.1⟩
theorem f153_2.sound:SO 153 f153_2.S:=so [b f162.sound,b f175.sound] n0 [] [(3,⟨[(1,.c (.fn 175 [])),(8,rE),(9,n6),(10,n6)],[]⟩)] [] 0 (by kernel_rfl) fun _=>by kernel_rfl
def f104(a0:LE):Option (LE×Unit):=da (.prod (.int .i64) (.prod (.int .i64) (.prod (.int .i64) (.prod (.int .i64) (.prod (.int .i64) (.prod (.int .i64) (.prod (.int .i64) (.prod (.int .i64) (.prod (.int .i64) (.prod (.int .i64) (.int .i64))))))))))) 88 a0
def f104.S:ah:=⟨ka (.prod (.int .i64) (.prod (.int .i64) (.prod (.int .i64) (.prod (.int .i64) (.prod (.int .i64) (.prod (.int .i64) (.prod (.int .i64) (.prod (.int .i64) (.prod (.int .i64) (.prod (.int .i64) (.int .i64))))))))))),cX (.prod (.int .i64) (.prod (.int .i64) (.prod (.int .i64) (.prod (.int .i64) (.prod (.int .i64) (.prod (.int .i64) (.prod (.int .i64) (.prod (.int .i64) (.prod (.int .i64) (.prod (.int .i64) (.int .i64))))))))))),[],fun x=>f104 x.1⟩
def f104.E:Env:=⟨bQ,[],[],[],[],[],0,[],1⟩
theorem f104.sound:Sound Go.Proofs.Tryz.prog 104 f104.S:=jb (p:=F4) (fn:=Go.Proofs.Tryz.f104) (t:=24) (q:=45) (u:=4) (bytes:=88) (i:=Bl) f104.E (by kernel_rfl) (by kernel_rfl) (by kernel_rfl) lQ (by kernel_rfl) ⟨fx,bK.nil _,FnsOk.nil⟩ rfl (by kernel_rfl) (by kernel_rfl) (by intro l A K;kernel_rfl) (by kernel_rfl) (by intro l;kernel_rfl)
def f156(a0:LE)(a1 a2 a3 a4 a5 a6 a7 a8 a9 a10 a11:Int):Option (Dc) :=
 bif decide (a1<1) then
 some ((0,3,[],()))
 else
 bif decide (a1>4) then
 some ((0,3,[],()))
 else
 ob (f153_2 a0) fun y0 =>
 bif decide (y0.1<0) then
 some ((0,5,[],()))
 else
 ob (f104 a0) fun y1 =>
 bif ae y0.1 (ln a0) then
 bif ae y0.1 (ln y1.1) then
 let s0:LE:=ls y1.1 (tn y0.1) (a1,Int.tmod (wp .i64 (Int.tmod (wp .i64 ((gd a0 (tn y0.1) zE).2.1+1)) 256+256)) 256,a3,a4,a5,a6,a7,a8,a9,a10,a11)
 some ((y0.1,0,s0,()))
 else
 none
 else
 none
def f156.S:ah:=⟨⟨[(0,rE),(1,eS)],[]⟩,[⟨[(0,ow 0),(1,n6),(2,n6)],[(0,aE)]⟩],[],fun(a,b,c,d,e,f,g,h,i,j,k,l,_)=>f156 a b c d e f g h i j k l⟩
theorem f156.sound:SO 156 f156.S:=so [b f153_2.sound,b f104.sound] n0 [] [] [] 0 (by kernel_rfl) fun _=>by kernel_rfl
def f101(a0 a1 a2 a3 a4 a5 a6 a7 a8 a9 a10 a11 a12 a13 a14 a15 a16 a17 a18:Int)(a19 a20:Bool)(a21:LZ)(a22:LE)(a23:LI):Option (Gj) :=
 ob (f156 a22 a0 a1 a2 a3 a4 a5 a6 a7 a8 a9 a10) fun y0 =>
 bif y0.2.1==0 then
 some ((a11,a12,a13,a14,a15,a16,a17,a18,a19,a20,a21,a23,y0.2.2.1,()))
 else
 some ((a11,a12,a13,a14,a15,a16,a17,a18,a19,a20,a21,a23,a22,()))
def f101.S:ah:=⟨⟨[(0,pt 0),(1,eS)],[(0,bx (.own 1) (.own 2) (.own 3)),(1,a8),(2,aE),(3,aI)]⟩,[⟨[],[(0,bx (.own 1) (.own 4) (.own 3)),(1,a8),(3,aI),(4,aE)]⟩],[0,1,3],fun(a,b,c,d,e,f,g,h,i,j,k,l,m,n,o,p,q,r,s,t,u,v,w,y,_)=>f101 a b c d e f g h i j k l m n o p q r s t u v w y⟩
theorem f101.sound:SO 101 f101.S:=so [b f156.sound] n0 [] [] [] 4 (by kernel_rfl) fun _=>by kernel_rfl
def f105(a0:LI):Option (LI×Unit):=da (.prod (.int .i64) (.prod (.int .i64) (.prod (.int .i64) (.int .i64)))) 32 a0
def f105.S:ah:=⟨ka (.prod (.int .i64) (.prod (.int .i64) (.prod (.int .i64) (.int .i64)))),cX (.prod (.int .i64) (.prod (.int .i64) (.prod (.int .i64) (.int .i64)))),[],fun x=>f105 x.1⟩
def f105.E:Env:=⟨bQ,[],[],[],[],[],0,[],1⟩
theorem f105.sound:Sound Go.Proofs.Tryz.prog 105 f105.S:=jb (p:=F4) (fn:=Go.Proofs.Tryz.f105) (t:=25) (q:=106) (u:=4) (bytes:=32) (i:=Cn) f105.E (by kernel_rfl) (by kernel_rfl) (by kernel_rfl) lQ (by kernel_rfl) ⟨fx,bK.nil _,FnsOk.nil⟩ rfl (by kernel_rfl) (by kernel_rfl) (by intro l A K;kernel_rfl) (by kernel_rfl) (by intro l;kernel_rfl)
def f157.L1(x:LI×Int×Int×fR):Option (Int×Unit) :=
 it (X:=LI×Int×Int×fR) (fun rec x=>match x with
 | (v0,v1,v2,v3,v4,v5,v6,_) =>
 bif decide (v2<v1) then
 bif ae v2 (ln v0) then
 bif v3==(gd v0 (tn v2) (0,0,0,0)).1&&(v4==(gd v0 (tn v2) (0,0,0,0)).2.1&&(v5==(gd v0 (tn v2) (0,0,0,0)).2.2.1&&(v6==(gd v0 (tn v2) (0,0,0,0)).2.2.2&&true))) then
 some ((v2,()))
 else
 rec (v0,v1,wp .i64 (v2+1),v3,v4,v5,v6,())
 else
 none
 else
 some ((-1,()))
 ) (100000000000000000000) (x)
def f157(a0:LI)(a1 a2 a3 a4:Int):Option (Int×Unit) :=
 f157.L1 ((a0,(↑(ln a0):Int),0,a1,a2,a3,a4,()))
def f157.S:ah:=⟨⟨[(0,rI),(1,.agg [i6,i6,i6,i6])],[]⟩,[⟨[(0,n6)],[]⟩],[],fun(a,b,c,d,e,_)=>f157 a b c d e⟩
theorem f157.sound:SO 157 f157.S:=so [] (bK.cons nL n0) [] [(3,⟨[(0,rI),(3,pt 0),(7,n6),(8,n6)],[(0,.box [i6,i6,i6,i6])]⟩)] [] 0 (by kernel_rfl) fun _=>by kernel_rfl
def f102.L1(x:LI×Int×uW):Option (LI×Unit) :=
 it (X:=LI×Int×uW) (fun rec x =>
 bif decide (x.2.2.1<x.2.1) then
 bif ae x.2.2.1 (ln x.1) then
 bif decide ((0:Int)≤0∧0≤aX (↑(ln x.2.2.2.1):Int) 40∧aX (↑(ln x.2.2.2.1):Int) 40≤(↑(ln x.2.2.2.1):Int)) then
 ob (f157 (List.drop 0 (List.take (tn (aX (↑(ln x.2.2.2.1):Int) 40)) x.2.2.2.1)) 0 0 0 0) fun y0 =>
 bif decide (y0.1≥0) then
 bif ae y0.1 (ln x.2.2.2.1) then
 let s0:LI:=ls x.2.2.2.1 (tn y0.1) ((gd x.1 (tn x.2.2.1) (0,0,0,0)).1,(gd x.1 (tn x.2.2.1) (0,0,0,0)).2.1,(gd x.1 (tn x.2.2.1) (0,0,0,0)).2.2.1,(gd x.1 (tn x.2.2.1) (0,0,0,0)).2.2.2)
 rec (x.1,x.2.1,wp .i64 (x.2.2.1+1),s0,())
 else
 none
 else
 rec (x.1,x.2.1,wp .i64 (x.2.2.1+1),x.2.2.2.1,())
 else
 none
 else
 none
 else
 some ((x.2.2.2.1,()))
 ) (100000000000000000000) (x)
def f102(a0 a1:LI):Option (LI×Unit) :=
 ob (f105 a0) fun y0 =>
 f102.L1 ((a1,(↑(ln a1):Int),0,y0.1,()))
def f102.S:ah:=⟨⟨[(0,rI),(1,rI)],[]⟩,[⟨[(0,ow 0)],[(0,aI)]⟩],[],fun x=>f102 x.1 x.2.1⟩
theorem f102.sound:SO 102 f102.S:=so [b f105.sound,b f157.sound] n0 [] [(4,⟨[(5,ow 0),(11,rI),(12,n6),(13,n6)],[(0,aI)]⟩)] [] 0 (by kernel_rfl) fun _=>by kernel_rfl
def f52.L1(x:Hd):Option (Hv) :=
 it (X:=Hd) (fun rec x=>match x with
 | (v0,v1,v2,v3,v4,v5,v6,v7,v8,v9,v10,v11,v12,v13,v14,v15,v16,_) =>
 bif decide (v1<v0) then
 bif ae v1 (ln v13) then
 ob (f96 v15 (gd v13 (tn v1) zE).2.2.2.1 (gd v13 (tn v1) zE).2.2.2.2.1) fun y0 =>
 bif decide (y0.1<0) then
 ob (f101 (gd v13 (tn v1) zE).1 (gd v13 (tn v1) zE).2.1 (gd v13 (tn v1) zE).2.2.1 (gd v13 (tn v1) zE).2.2.2.1 (gd v13 (tn v1) zE).2.2.2.2.1 (gd v13 (tn v1) zE).2.2.2.2.2.1 (gd v13 (tn v1) zE).2.2.2.2.2.2.1 (gd v13 (tn v1) zE).2.2.2.2.2.2.2.1 (gd v13 (tn v1) zE).2.2.2.2.2.2.2.2.1 (gd v13 (tn v1) zE).2.2.2.2.2.2.2.2.2.1 (gd v13 (tn v1) zE).2.2.2.2.2.2.2.2.2.2 v2 v3 v4 v5 v6 v7 v8 v9 v10 v11 v14 v15 v12) fun y1 =>
 rec (v0,wp .i64 (v1+1),y1.1,y1.2.1,y1.2.2.1,y1.2.2.2.1,y1.2.2.2.2.1,y1.2.2.2.2.2.1,y1.2.2.2.2.2.2.1,y1.2.2.2.2.2.2.2.1,y1.2.2.2.2.2.2.2.2.1,y1.2.2.2.2.2.2.2.2.2.1,y1.2.2.2.2.2.2.2.2.2.2.2.1,v13,y1.2.2.2.2.2.2.2.2.2.2.1,y1.2.2.2.2.2.2.2.2.2.2.2.2.1,v16,())
 else
 rec (v0,wp .i64 (v1+1),v2,v3,v4,v5,v6,v7,v8,v9,v10,v11,v12,v13,v14,v15,v16,())
 else
 none
 else
 ob (f102 v12 v16) fun y2 =>
 some ((v2,v3,v4,v5,v6,v7,v8,v9,v10,v11,v12,v14,v15,y2.1,()))
 ) (100000000000000000000) (x)
def f52(a0 a1 a2 a3 a4 a5 a6 a7:Int)(a8 a9:Bool)(a10:LE)(a11:LI):Option (Hv) :=
 ob (f11 a0 a2) fun y0 =>
 ob (f100 a0 a1 a2 a3 a4 a5 a6 a7 a8 a9 y0.2.1 a10 a11) fun y1 =>
 f52.L1 (((↑(ln y0.2.2.1):Int),0,y1.1,y1.2.1,y1.2.2.1,y1.2.2.2.1,y1.2.2.2.2.1,y1.2.2.2.2.2.1,y1.2.2.2.2.2.2.1,y1.2.2.2.2.2.2.2.1,y1.2.2.2.2.2.2.2.2.1,y1.2.2.2.2.2.2.2.2.2.1,y1.2.2.2.2.2.2.2.2.2.2.2.2.1,y0.2.2.1,y1.2.2.2.2.2.2.2.2.2.2.1,y1.2.2.2.2.2.2.2.2.2.2.2.1,y0.2.2.2.1,()))
def f52.S:ah:=⟨⟨[(0,pt 0)],[(0,bx .nils (.own 1) (.own 2)),(1,aE),(2,aI)]⟩,[⟨[],[(0,bx (.own 3) (.own 4) (.own 5)),(2,aI),(3,a8),(4,aE),(5,aI)]⟩],[0,2],fun(a,b,c,d,e,f,g,h,i,j,k,l,_)=>f52 a b c d e f g h i j k l⟩
theorem f52.sound:SO 52 f52.S:=so [b f11.sound,b f96.sound,b f100.sound,b f101.sound,b f102.sound] n0 [] [(5,⟨[(0,pt 0),(2,pt 3),(29,ow 4),(30,n6),(31,n6)],[(0,bx (.own 5) (.own 6) (.own 2)),(2,aI),(3,.box [.own 5,.own 4,.own 7]),(4,aE),(5,a8),(6,aE),(7,aI)]⟩)] [] 3 (by kernel_rfl) fun _=>by kernel_rfl
def f19(a0:Int):Option (T0) :=
 ob (f52 a0 0 1 0 0 0 0 0 false false (rp 32 zE) (rp 40 (0,0,0,0))) fun y0 =>
 some ((y0.1,y0.2.1,y0.2.2.1,y0.2.2.2.1,y0.2.2.2.2.1,y0.2.2.2.2.2.1,y0.2.2.2.2.2.2.1,y0.2.2.2.2.2.2.2.1,y0.2.2.2.2.2.2.2.2.2.2.2.1,y0.2.2.2.2.2.2.2.2.2.2.2.2.1,y0.2.2.2.2.2.2.2.2.2.2.2.2.2.1,()))
def f19.S:ah:=⟨⟨[(0,n6)],[]⟩,[⟨[(0,aw (.own 0) (.own 1) (.own 2))],[(0,a8),(1,aE),(2,aI)]⟩],[],fun x=>f19 x.1⟩
theorem f19.sound:SO 19 f19.S:=so [b f52.sound] n0 [] [] [] 0 (by kernel_rfl) fun _=>by kernel_rfl
def f103(a0:LZ):Option (LZ×Unit):=da (.int .u8) 1 a0
def f103.S:ah:=⟨ka (.int .u8),cX (.int .u8),[],fun x=>f103 x.1⟩
def f103.E:Env:=⟨bQ,[],[],[],[],[],0,[],1⟩
theorem f103.sound:Sound Go.Proofs.Tryz.prog 103 f103.S:=jb (p:=F4) (fn:=Go.Proofs.Tryz.f103) (t:=23) (q:=5) (u:=4) (bytes:=1) (i:=yw) f103.E (by kernel_rfl) (by kernel_rfl) (by kernel_rfl) lQ (by kernel_rfl) ⟨fx,bK.nil _,FnsOk.nil⟩ rfl (by kernel_rfl) (by kernel_rfl) (by intro l A K;kernel_rfl) (by kernel_rfl) (by intro l;kernel_rfl)
def f53(a0 a1 a2 a3:Int)(a4:LZ)(a5:LE)(a6:LI)(a7 a8 a9 a10:Int):Option (T0) :=
 ob (f103 a4) fun y0 =>
 ob (f104 a5) fun y1 =>
 ob (f105 a6) fun y2 =>
 some ((a0,a1,a2,a3,a7,a8,a9,a10,y0.1,y1.1,y2.1,()))
def f53.S:ah:=⟨⟨[(0,wS)],[]⟩,[⟨[(0,aw (.own 0) (.own 1) (.own 2))],[(0,a8),(1,aE),(2,aI)]⟩],[],fun(a,b,c,d,e,f,g,h,i,j,k,_)=>f53 a b c d e f g h i j k⟩
theorem f53.sound:SO 53 f53.S:=so [b f104.sound,b f105.sound,b f103.sound] n0 [] [] [] 0 (by kernel_rfl) fun _=>by kernel_rfl
def f107(a0 a1 a2 a3 a4 a5 a6 a7 a8 a9 a10:Int):Option (Bool×Unit) :=
 some ((a0==1,()))
def f107.S:ah:=⟨⟨[(0,eS)],[]⟩,[⟨[(0,nb)],[]⟩],[],fun(a,b,c,d,e,f,g,h,i,j,k,_)=>f107 a b c d e f g h i j k⟩
theorem f107.sound:SO 107 f107.S:=so [] n0 [] [] [] 0 (by kernel_rfl) fun _=>by kernel_rfl
def f158.L1(x:LE×T3):Option (Int×Unit) :=
 it (X:=LE×T3) (fun rec x =>
 bif decide (x.2.2.1<x.2.1) then
 bif ae x.2.2.1 (ln x.1) then
 ob (f107 (gd x.1 (tn x.2.2.1) zE).1 (gd x.1 (tn x.2.2.1) zE).2.1 (gd x.1 (tn x.2.2.1) zE).2.2.1 (gd x.1 (tn x.2.2.1) zE).2.2.2.1 (gd x.1 (tn x.2.2.1) zE).2.2.2.2.1 (gd x.1 (tn x.2.2.1) zE).2.2.2.2.2.1 (gd x.1 (tn x.2.2.1) zE).2.2.2.2.2.2.1 (gd x.1 (tn x.2.2.1) zE).2.2.2.2.2.2.2.1 (gd x.1 (tn x.2.2.1) zE).2.2.2.2.2.2.2.2.1 (gd x.1 (tn x.2.2.1) zE).2.2.2.2.2.2.2.2.2.1 (gd x.1 (tn x.2.2.1) zE).2.2.2.2.2.2.2.2.2.2) fun y0 =>
 bif y0.1 then
 some ((x.2.2.1,()))
 else
 rec (x.1,x.2.1,wp .i64 (x.2.2.1+1),())
 else
 none
 else
 some ((-1,()))
 ) (100000000000000000000) (x)
def f158(a0:LE):Option (Int×Unit) :=
 f158.L1 ((a0,(↑(ln a0):Int),0,()))
def f158.S:ah:=⟨⟨[(0,rE),(1,.c (.fn 107 []))],[]⟩,[⟨[(0,n6)],[]⟩],[],fun x=>f158 x.1⟩
theorem f158.sound:SO 158 f158.S:=so [b f107.sound] n0 [] [(3,⟨[(0,rE),(1,.c (.fn 107 [])),(7,n6),(8,n6)],[]⟩)] [] 0 (by kernel_rfl) fun _=>by kernel_rfl
def f106(a0:LE):Option (Bool×Unit) :=
 ob (f158 a0) fun y0 =>
 some ((decide (y0.1≥0),()))
def f106.S:ah:=⟨⟨[(0,rE),(1,.c (.fn 107 []))],[]⟩,[⟨[(0,nb)],[]⟩],[],fun x=>f106 x.1⟩
theorem f106.sound:SO 106 f106.S:=so [b f158.sound] n0 [] [] [] 0 (by kernel_rfl) fun _=>by kernel_rfl
def f54(a0:(Gb)×Bool×Bool):Option (Bool×Unit) :=
 ob (f106 a0.1.2.2.2.2.2.1) fun y0 =>
 some ((y0.1,()))
def f54.S:ah:=⟨⟨[(0,.c (.bptr (.prod (.prod (.int .i64) (.prod (.int .i64) (.prod (.int .i64) (.prod (.int .i64) (.prod (.row (.int .u8)) (.prod (.row tE) (.prod (.row tI) tI))))))) (.prod .bool .bool))))],[]⟩,[⟨[(0,nb)],[]⟩],[],fun x=>f54 x.1⟩
theorem f54.sound:SO 54 f54.S:=so [b f106.sound] n0 [] [] [] 0 (by kernel_rfl) fun _=>by kernel_rfl
def f55(a0 a1 a2 a3 a4 a5 a6 a7 a8:Int)(a9 a10:Bool)(a11:LZ)(a12:LE)(a13:LI):Option (Gj) :=
 ob (f108 ((a1,a2,a3,a4,a11,a12,a13,a5,a6,a7,a8),a9,a10)) fun y0 =>
 bif !y0.2.2.1 then
 some ((a1,a2,a3,a4,a5,a6,a7,a8,a9,a10,a11,a13,a12,()))
 else
 ob (f97 a12 a0) fun y1 =>
 bif decide (y1.1≥0) then
 some ((a1,a2,a3,a4,a5,a6,a7,a8,a9,a10,a11,a13,a12,()))
 else
 ob (f109 a11 a12 y0.1 y0.2.1) fun y2 =>
 bif decide (y2.1<0) then
 some ((a1,a2,a3,a4,a5,a6,a7,a8,a9,a10,a11,a13,a12,()))
 else
 ob (f75 1) fun y3 =>
 ob (f101 y3.1 y3.2.1 a0 (Int.tmod y2.1 24) (wp .i64 (Int.tdiv y2.1 24)) y3.2.2.2.2.2.1 y3.2.2.2.2.2.2.1 y3.2.2.2.2.2.2.2.1 y3.2.2.2.2.2.2.2.2.1 y3.2.2.2.2.2.2.2.2.2.1 y3.2.2.2.2.2.2.2.2.2.2.1 a1 a2 a3 a4 a5 a6 a7 a8 a9 a10 a11 a12 a13) fun y4 =>
 some ((y4.1,y4.2.1,y4.2.2.1,y4.2.2.2.1,y4.2.2.2.2.1,y4.2.2.2.2.2.1,y4.2.2.2.2.2.2.1,y4.2.2.2.2.2.2.2.1,y4.2.2.2.2.2.2.2.2.1,y4.2.2.2.2.2.2.2.2.2.1,y4.2.2.2.2.2.2.2.2.2.2.1,y4.2.2.2.2.2.2.2.2.2.2.2.1,y4.2.2.2.2.2.2.2.2.2.2.2.2.1,()))
def f55.S:ah:=⟨⟨[(0,pt 0),(1,n6)],[(0,bx (.own 1) (.own 2) (.own 3)),(1,a8),(2,aE),(3,aI)]⟩,[⟨[],[(0,bx (.own 1) (.own 4) (.own 3)),(1,a8),(3,aI),(4,aE)]⟩],[0,1,3],fun(a,b,c,d,e,f,g,h,i,j,k,l,m,n,_)=>f55 a b c d e f g h i j k l m n⟩
theorem f55.sound:SO 55 f55.S:=so [b f75.sound,b f108.sound,b f97.sound,b f109.sound,b f101.sound] n0 [] [] [] 4 (by kernel_rfl) fun _=>by kernel_rfl
def f213.L1(x:Int×Bool×Int×LI×T3):Option (Bool×Bool×Unit) :=
 it (X:=Int×Bool×Int×LI×T3) (fun rec x =>
 bif decide (x.2.2.2.2.2.1<x.2.2.2.2.1) then
 bif ae x.2.2.2.2.2.1 (ln x.2.2.2.1) then
 bif (gd x.2.2.2.1 (tn x.2.2.2.2.2.1) (0,0,0,0)).1 !=0 then
 bif (gd x.2.2.2.1 (tn x.2.2.2.2.2.1) (0,0,0,0)).2.1==2 then
 bif (gd x.2.2.2.1 (tn x.2.2.2.2.2.1) (0,0,0,0)).2.2.1==x.1 then
 bif x.2.1 then
 rec (x.1,true,wp .i64 (x.2.2.1+1),x.2.2.2.1,x.2.2.2.2.1,wp .i64 (x.2.2.2.2.2.1+1),())
 else
 rec (x.1,(gd x.2.2.2.1 (tn x.2.2.2.2.2.1) (0,0,0,0)).1==1,wp .i64 (x.2.2.1+1),x.2.2.2.1,x.2.2.2.2.1,wp .i64 (x.2.2.2.2.2.1+1),())
 else
 rec (x.1,x.2.1,x.2.2.1,x.2.2.2.1,x.2.2.2.2.1,wp .i64 (x.2.2.2.2.2.1+1),())
 else
 rec (x.1,x.2.1,x.2.2.1,x.2.2.2.1,x.2.2.2.2.1,wp .i64 (x.2.2.2.2.2.1+1),())
 else
 rec (x.1,x.2.1,x.2.2.1,x.2.2.2.1,x.2.2.2.2.1,wp .i64 (x.2.2.2.2.2.1+1),())
 else
 none
 else
 some ((x.2.1,decide (x.2.2.1<4),()))
 ) (100000000000000000000) (x)
def f213(a0 a1 a2 a3:Int)(a4:LZ)(a5:LE)(a6:LI)(a7 a8 a9 a10 a11:Int):Option (Bool×Bool×Unit) :=
 f213.L1 ((a11,false,0,a6,(↑(ln a6):Int),0,()))
def f213.S:ah:=⟨⟨[(0,wS),(1,n6)],[]⟩,[⟨[(0,nb),(1,nb)],[]⟩],[],fun(a,b,c,d,e,f,g,h,i,j,k,l,_)=>f213 a b c d e f g h i j k l⟩
theorem f213.sound:SO 213 f213.S:=so [] n0 [] [(4,⟨[(1,n6),(4,nb),(6,n6),(10,rI),(11,n6),(12,n6)],[]⟩)] [] 0 (by kernel_rfl) fun _=>by kernel_rfl
def f131.L1(x:fR):Option (T3) :=
 it (X:=fR) (fun rec x =>
 bif decide (x.2.2.2.1<x.2.2.1) then
 bif small x.1&&small x.2.1 then
 rec (-x.2.1,x.1,x.2.2.1,wp .i64 (x.2.2.2.1+1),())
 else
 none
 else
 some ((x.1,x.2.1,()))
 ) (100000000000000000000) (x)
def f131(a0 a1 a2:Int):Option (T3) :=
 f131.L1 ((a0,a1,Int.tmod (wp .i64 (Int.tmod a2 4+4)) 4,0,()))
def f131.S:ah:=⟨⟨[(0,.c (.cint)),(1,n6)],[]⟩,[⟨[(0,.c (.cint))],[]⟩],[],fun(a,b,c,_)=>f131 a b c⟩
theorem f131.sound:SO 131 f131.S:=so [] n0 [] [(3,⟨[(0,.c (.cint)),(8,n6),(9,n6)],[]⟩)] [] 0 (by kernel_rfl) fun _=>by kernel_rfl
def f130(a0 a1:Int):Option (T3) :=
 bif small a0 then
 bif small a1 then
 some ((a0,a1,()))
 else
 none
 else
 none
def f130.S:ah:=⟨⟨[(0,.c (.cint))],[]⟩,[⟨[(0,n6),(1,n6)],[]⟩],[],fun x=>f130 x.1 x.2.1⟩
theorem f130.sound:SO 130 f130.S:=so [] n0 [] [] [] 0 (by kernel_rfl) fun _=>by kernel_rfl
def f78(a0:Int):Option (T3) :=
 bif decide (a0<1) then
 some ((0,0,()))
 else
 bif decide (a0>4) then
 some ((0,0,()))
 else
 ob (f131 0 (-1) (wp .i64 (a0-1))) fun y0 =>
 ob (f130 y0.1 y0.2.1) fun y1 =>
 some ((y1.1,y1.2.1,()))
def f78.S:ah:=⟨⟨[(0,n6)],[]⟩,[⟨[(0,n6),(1,n6)],[]⟩],[],fun x=>f78 x.1⟩
theorem f78.sound:SO 78 f78.S:=so [b f131.sound,b f130.sound] n0 [] [] [] 0 (by kernel_rfl) fun _=>by kernel_rfl
def f214(a0 a1 a2 a3 a4 a5 a6 a7 a8 a9 a10 a11:Int):Option (T3) :=
 ob (f78 a11) fun y0 =>
 bif small a3 then
 bif small a4 then
 bif small y0.1 then
 bif small y0.2.1 then
 bif small (a3+y0.1)&&small (a4+y0.2.1) then
 bif small (a3+y0.1) then
 bif small (a4+y0.2.1) then
 some ((a3+y0.1,a4+y0.2.1,()))
 else
 none
 else
 none
 else
 none
 else
 none
 else
 none
 else
 none
 else
 none
def f214.S:ah:=⟨⟨[(0,eS),(1,n6)],[]⟩,[⟨[(0,n6),(1,n6)],[]⟩],[],fun(a,b,c,d,e,f,g,h,i,j,k,l,_)=>f214 a b c d e f g h i j k l⟩
theorem f214.sound:SO 214 f214.S:=so [b f78.sound] n0 [] [] [] 0 (by kernel_rfl) fun _=>by kernel_rfl
def f215.L1(x:Int×Int×Bool×LI×T3):Option (Bool×Unit) :=
 it (X:=Int×Int×Bool×LI×T3) (fun rec x =>
 bif decide (x.2.2.2.2.2.1<x.2.2.2.2.1) then
 bif ae x.2.2.2.2.2.1 (ln x.2.2.2.1) then
 bif (gd x.2.2.2.1 (tn x.2.2.2.2.2.1) (0,0,0,0)).1 !=0 then
 bif (gd x.2.2.2.1 (tn x.2.2.2.2.2.1) (0,0,0,0)).2.1==1 then
 bif (gd x.2.2.2.1 (tn x.2.2.2.2.2.1) (0,0,0,0)).2.2.1==x.1 then
 bif (gd x.2.2.2.1 (tn x.2.2.2.2.2.1) (0,0,0,0)).2.2.2==x.2.1 then
 bif x.2.2.1 then
 some ((true,()))
 else
 some (((gd x.2.2.2.1 (tn x.2.2.2.2.2.1) (0,0,0,0)).1==4,()))
 else
 rec (x.1,x.2.1,x.2.2.1,x.2.2.2.1,x.2.2.2.2.1,wp .i64 (x.2.2.2.2.2.1+1),())
 else
 rec (x.1,x.2.1,x.2.2.1,x.2.2.2.1,x.2.2.2.2.1,wp .i64 (x.2.2.2.2.2.1+1),())
 else
 rec (x.1,x.2.1,x.2.2.1,x.2.2.2.1,x.2.2.2.2.1,wp .i64 (x.2.2.2.2.2.1+1),())
 else
 rec (x.1,x.2.1,x.2.2.1,x.2.2.2.1,x.2.2.2.2.1,wp .i64 (x.2.2.2.2.2.1+1),())
 else
 none
 else
 some ((false,()))
 ) (100000000000000000000) (x)
def f215(a0 a1 a2 a3:Int)(a4:LZ)(a5:LE)(a6:LI)(a7 a8 a9 a10 a11 a12:Int)(a13:Bool):Option (Bool×Unit) :=
 f215.L1 ((a11,a12,a13,a6,(↑(ln a6):Int),0,()))
def f215.S:ah:=⟨⟨[(0,wS),(1,n6),(2,n6),(3,nb)],[]⟩,[⟨[(0,nb)],[]⟩],[],fun(a,b,c,d,e,f,g,h,i,j,k,l,m,n,_)=>f215 a b c d e f g h i j k l m n⟩
theorem f215.sound:SO 215 f215.S:=so [] n0 [] [(3,⟨[(1,n6),(2,n6),(3,nb),(12,rI),(13,n6),(14,n6)],[]⟩)] [] 0 (by kernel_rfl) fun _=>by kernel_rfl
def f95(a0:LZ)(a1 a2:Int):Option (Int×Unit) :=
 ob (f77 a1 a2) fun y0 =>
 ob (f41 a0 y0.1) fun y1 =>
 some ((y1.1,()))
def f95.S:ah:=⟨⟨[(0,r8),(1,n6),(2,n6)],[]⟩,[⟨[(0,n6)],[]⟩],[],fun(a,b,c,_)=>f95 a b c⟩
theorem f95.sound:SO 95 f95.S:=so [b f41.sound,b f77.sound] n0 [] [] [] 0 (by kernel_rfl) fun _=>by kernel_rfl
def f45(a0 a1 a2:Int):Option (T3) :=
 ob (f78 a2) fun y0 =>
 bif small y0.1 then
 bif small y0.2.1 then
 bif small (a0+y0.1)&&small (a1+y0.2.1) then
 some ((a0+y0.1,a1+y0.2.1,()))
 else
 none
 else
 none
 else
 none
def f45.S:ah:=⟨⟨[(0,.c (.cint)),(1,n6)],[]⟩,[⟨[(0,.c (.cint))],[]⟩],[],fun(a,b,c,_)=>f45 a b c⟩
theorem f45.sound:SO 45 f45.S:=so [b f78.sound] n0 [] [] [] 0 (by kernel_rfl) fun _=>by kernel_rfl
def f44(a0 a1:Int):Option (T3) :=
 bif small a0 then
 bif small a1 then
 some ((a0,a1,()))
 else
 none
 else
 none
def f44.S:ah:=⟨⟨[(0,.c (.cint))],[]⟩,[⟨[(0,n6),(1,n6)],[]⟩],[],fun x=>f44 x.1 x.2.1⟩
theorem f44.sound:SO 44 f44.S:=so [] n0 [] [] [] 0 (by kernel_rfl) fun _=>by kernel_rfl
def f16.L1(x:Int×Int×Int×Int×List Bool×LZ×Unit):Option (Int×Unit) :=
 it (X:=Int×Int×Int×Int×List Bool×LZ×Unit) (fun rec x =>
 bif decide (x.2.2.2.1≤4) then
 bif small x.1 then
 bif small x.2.1 then
 ob (f45 x.1 x.2.1 x.2.2.2.1) fun y0 =>
 ob (f44 y0.1 y0.2.1) fun y1 =>
 ob (f43 y1.1 y1.2.1) fun y2 =>
 bif decide (y2.1≥0) then
 bif ae y2.1 (ln x.2.2.2.2.2.1) then
 bif ae x.2.2.1 (ln x.2.2.2.2.2.1) then
 bif gd x.2.2.2.2.2.1 (tn y2.1) 0==wp .i64 (gd x.2.2.2.2.2.1 (tn x.2.2.1) 0-1) then
 bif ae y2.1 (ln x.2.2.2.2.1) then
 bif !gd x.2.2.2.2.1 (tn y2.1) false then
 some ((x.2.2.2.1,()))
 else
 rec (x.1,x.2.1,x.2.2.1,wp .i64 (x.2.2.2.1+1),x.2.2.2.2.1,x.2.2.2.2.2.1,())
 else
 none
 else
 rec (x.1,x.2.1,x.2.2.1,wp .i64 (x.2.2.2.1+1),x.2.2.2.2.1,x.2.2.2.2.2.1,())
 else
 none
 else
 none
 else
 rec (x.1,x.2.1,x.2.2.1,wp .i64 (x.2.2.2.1+1),x.2.2.2.2.1,x.2.2.2.2.2.1,())
 else
 none
 else
 none
 else
 some ((0,()))
 ) (100000000000000000000) (x)
def f16.L2(x:LZ×Int×Int×LZ×Int×LE×Dj):Option (Int×Unit) :=
 it (X:=LZ×Int×Int×LZ×Int×LE×Dj) (fun rec x=>match x with
 | (v0,v1,v2,v3,v4,v5,v6,v7,v8,_) =>
 bif decide (v7<v6) then
 bif ae v7 (ln v5) then
 ob (f43 (gd v5 (tn v7) zE).2.2.2.1 (gd v5 (tn v7) zE).2.2.2.2.1) fun y0 =>
 bif (gd v5 (tn v7) zE).1 !=0 then
 bif decide (y0.1≥0) then
 bif y0.1 !=v4 then
 bif ae y0.1 (ln v8) then
 rec (v0,v1,v2,v3,v4,v5,v6,wp .i64 (v7+1),ls v8 (tn y0.1) true,())
 else
 none
 else
 rec (v0,v1,v2,v3,v4,v5,v6,wp .i64 (v7+1),v8,())
 else
 rec (v0,v1,v2,v3,v4,v5,v6,wp .i64 (v7+1),v8,())
 else
 rec (v0,v1,v2,v3,v4,v5,v6,wp .i64 (v7+1),v8,())
 else
 none
 else
 ob (f14 v0 v8 v3) fun y1 =>
 bif ae v4 (ln y1.1) then
 bif decide (gd y1.1 (tn v4) 0<1) then
 some ((0,()))
 else
 f16.L1 ((v1,v2,v4,1,v8,y1.1,()))
 else
 none
 ) (100000000000000000000) (x)
def f16(a0:LZ)(a1:LE)(a2 a3:Int)(a4:LZ):Option (Int×Unit) :=
 ob (f43 a2 a3) fun y0 =>
 bif decide (y0.1<0) then
 some ((0,()))
 else
 bif decide ((0:Int)≤0∧0≤aX (↑(ln a1):Int) 32∧aX (↑(ln a1):Int) 32≤(↑(ln a1):Int)) then
 f16.L2 ((a0,a2,a3,a4,y0.1,List.drop 0 (List.take (tn (aX (↑(ln a1):Int) 32)) a1),(↑(ln (List.drop 0 (List.take (tn (aX (↑(ln a1):Int) 32)) a1))):Int),0,rp 384 false,()))
 else
 none
def f16.S:ah:=⟨⟨[(0,r8),(1,rE),(2,n6),(3,n6),(4,.c (.row (.int .i64)))],[]⟩,[⟨[(0,n6)],[]⟩],[],fun(a,b,c,d,e,_)=>f16 a b c d e⟩
theorem f16.sound:SO 16 f16.S:=so [b f14.sound,b f43.sound,b f45.sound,b f44.sound] n0 [] [(7,⟨[(0,r8),(2,n6),(3,n6),(4,.c (.row (.int .i64))),(11,n6),(12,ow 0),(29,rE),(30,n6),(31,n6)],[(0,.arr .bool)]⟩),(17,⟨[(2,n6),(3,n6),(11,n6),(12,ow 0),(16,ow 1),(17,n6)],[(0,.arr .bool),(1,.arr (.int .i64))]⟩)] [] 0 (by kernel_rfl) fun _=>by kernel_rfl
end
end Go.Proofs.YthdgahpomhnidaaGreat.Run
namespace Go.Proofs.YthdgahpomhnidaaGreat.Run
open Go Mx
set_option maxRecDepth 100000
set_option maxHeartbeats 4000000
def jz:ByteArray:=ByteArray.mk (List.toArray (List.append (List.append [0,1,2,2,3,3,3,3,4,4,4,4,4,4,4,4,5,5,5,5,5,5,5,5,5,5,5,5,5,5,5,5,6,6,6,6,6,6,6,6,6,6,6,6,6,6,6,6,6,6,6,6,6,6,6,6,6,6,6,6,6,6,6,6] [7,7,7,7,7,7,7,7,7,7,7,7,7,7,7,7,7,7,7,7,7,7,7,7,7,7,7,7,7,7,7,7,7,7,7,7,7,7,7,7,7,7,7,7,7,7,7,7,7,7,7,7,7,7,7,7,7,7,7,7,7,7,7,7]) (List.append [8,8,8,8,8,8,8,8,8,8,8,8,8,8,8,8,8,8,8,8,8,8,8,8,8,8,8,8,8,8,8,8,8,8,8,8,8,8,8,8,8,8,8,8,8,8,8,8,8,8,8,8,8,8,8,8,8,8,8,8,8,8,8,8] [8,8,8,8,8,8,8,8,8,8,8,8,8,8,8,8,8,8,8,8,8,8,8,8,8,8,8,8,8,8,8,8,8,8,8,8,8,8,8,8,8,8,8,8,8,8,8,8,8,8,8,8,8,8,8,8,8,8,8,8,8,8,8,8])))
open List renaming getD→gd,length→ln,set→ls,replicate→rp
open Int renaming toNat→tn
open Option renaming bind→ob
open Go.IntKind renaming wrap→wp
open Sum renaming inl→il,inr→ir,elim→el
noncomputable section
def f212.L1(x:Bool×Int×qU):Option (Int×Unit) :=
 it (X:=Bool×Int×qU) (fun rec x=>match x with
 | (v0,v1,v2,v3,v4,v5,v6,v7,v8,v9,v10,v11,v12,v13,v14,v15,v16,v17,v18,v19,v20,v21,v22,v23,_) =>
 bif decide (v1≤4) then
 ob (f214 v13 v14 v15 v16 v17 v18 v19 v20 v21 v22 v23 v1) fun y0 =>
 ob (f96 v7 y0.1 y0.2.1) fun y1 =>
 bif decide (y1.1≥0) then
 bif ae y1.1 (ln v7) then
 bif (gd v7 (tn y1.1) zE).1 !=1 then
 some ((v1,()))
 else
 rec (v0,wp .i64 (v1+1),v2,v3,v4,v5,v6,v7,v8,v9,v10,v11,v12,v13,v14,v15,v16,v17,v18,v19,v20,v21,v22,v23,())
 else
 none
 else
 rec (v0,wp .i64 (v1+1),v2,v3,v4,v5,v6,v7,v8,v9,v10,v11,v12,v13,v14,v15,v16,v17,v18,v19,v20,v21,v22,v23,())
 else
 ob (f215 v2 v3 v4 v5 v6 v7 v8 v9 v10 v11 v12 v16 v17 v0) fun y2 =>
 bif y2.1 then
 some ((5,()))
 else
 ob (f95 v6 v16 v17) fun y3 =>
 bif y3.1==4 then
 some ((9,()))
 else
 ob (f13 v6 4) fun y4 =>
 ob (f16 v6 v7 v16 v17 [y4.1]) fun y5 =>
 some ((y5.1,()))
 ) (100000000000000000000) (x)
def f212(a0 a1 a2 a3 a4:Int)(a5:LZ)(a6:LE)(a7:LI)(a8 a9 a10 a11:Int):Option (Int×Unit) :=
 ob (f97 a6 a0) fun y0 =>
 bif decide (y0.1<0) then
 some ((0,()))
 else
 bif ae y0.1 (ln a6) then
 ob (f213 a1 a2 a3 a4 a5 a6 a7 a8 a9 a10 a11 a0) fun y1 =>
 ob (α:=Bool×qU⊕Int×Unit) (
 bif y1.1 then
 bif decide ((gd a6 (tn y0.1) zE).2.2.2.2.2.1≤wp .i64 (Int.tdiv (gd a6 (tn y0.1) zE).2.2.2.2.2.2.1 3)) then
 some (ir (6,()))
 else
 some (il (y1.2.1,a1,a2,a3,a4,a5,a6,a7,a8,a9,a10,a11,(gd a6 (tn y0.1) zE).1,(gd a6 (tn y0.1) zE).2.1,(gd a6 (tn y0.1) zE).2.2.1,(gd a6 (tn y0.1) zE).2.2.2.1,(gd a6 (tn y0.1) zE).2.2.2.2.1,(gd a6 (tn y0.1) zE).2.2.2.2.2.1,(gd a6 (tn y0.1) zE).2.2.2.2.2.2.1,(gd a6 (tn y0.1) zE).2.2.2.2.2.2.2.1,(gd a6 (tn y0.1) zE).2.2.2.2.2.2.2.2.1,(gd a6 (tn y0.1) zE).2.2.2.2.2.2.2.2.2.1,(gd a6 (tn y0.1) zE).2.2.2.2.2.2.2.2.2.2,()))
 else
 some (il (y1.2.1,a1,a2,a3,a4,a5,a6,a7,a8,a9,a10,a11,(gd a6 (tn y0.1) zE).1,(gd a6 (tn y0.1) zE).2.1,(gd a6 (tn y0.1) zE).2.2.1,(gd a6 (tn y0.1) zE).2.2.2.1,(gd a6 (tn y0.1) zE).2.2.2.2.1,(gd a6 (tn y0.1) zE).2.2.2.2.2.1,(gd a6 (tn y0.1) zE).2.2.2.2.2.2.1,(gd a6 (tn y0.1) zE).2.2.2.2.2.2.2.1,(gd a6 (tn y0.1) zE).2.2.2.2.2.2.2.2.1,(gd a6 (tn y0.1) zE).2.2.2.2.2.2.2.2.2.1,(gd a6 (tn y0.1) zE).2.2.2.2.2.2.2.2.2.2,()))
 ) fun y2 =>
 el (fun y3=>match y3 with
 | (u3_0,u3_1,u3_2,u3_3,u3_4,u3_5,u3_6,u3_7,u3_8,u3_9,u3_10,u3_11,u3_12,u3_13,u3_14,u3_15,u3_16,u3_17,u3_18,u3_19,u3_20,u3_21,u3_22,_) =>
 f212.L1 ((u3_0,1,u3_1,u3_2,u3_3,u3_4,u3_5,u3_6,u3_7,u3_8,u3_9,u3_10,u3_11,u3_12,u3_13,u3_14,u3_15,u3_16,u3_17,u3_18,u3_19,u3_20,u3_21,u3_22,()))
 ) (fun z4 =>
 some (z4)
 ) (y2)
 else
 none
def f212.S:ah:=⟨⟨[(0,.agg [i6]),(1,wS)],[]⟩,[⟨[(0,n6)],[]⟩],[],fun(a,b,c,d,e,f,g,h,i,j,k,l,_)=>f212 a b c d e f g h i j k l⟩
theorem f212.sound:SO 212 f212.S:=so [b f13.sound,b f97.sound,b f96.sound,b f213.sound,b f214.sound,b f215.sound,b f95.sound,b f16.sound] n0 [(9,⟨[(3,pt 0),(6,pt 1),(8,nb)],[(0,bw q8 qE qI),(1,bz)]⟩)] [(10,⟨[(3,pt 0),(6,pt 1),(8,nb),(9,n6)],[(0,bw q8 qE qI),(1,bz)]⟩)] [] 0 (by kernel_rfl) fun _=>by kernel_rfl
def f22(a0 a1 a2 a3:Int)(a4:LZ)(a5:LE)(a6:LI)(a7 a8 a9 a10 a11:Int):Option (Int×Unit):=f212 a11 a0 a1 a2 a3 a4 a5 a6 a7 a8 a9 a10
def f22.S:ah:=⟨rU,c6,[],fun x=>f22 x.1 x.2.1 x.2.2.1 x.2.2.2.1 x.2.2.2.2.1 x.2.2.2.2.2.1 x.2.2.2.2.2.2.1 x.2.2.2.2.2.2.2.1 x.2.2.2.2.2.2.2.2.1 x.2.2.2.2.2.2.2.2.2.1 x.2.2.2.2.2.2.2.2.2.2.1 x.2.2.2.2.2.2.2.2.2.2.2.1⟩
def f22.E:Env:=⟨bQ,[],[],[],[],[],0,[],1⟩
theorem f22.ask : pc f22.E ((Go.Proofs.Tryz.f61.body).getD .skip) "adit/minds.wants" 43 := by constructor <;> first | kernel_rfl | (unfold fb; kernel_rfl) | (intros; kernel_rfl)
theorem f22.parts:nA f22.E ((Go.Proofs.Tryz.f22.body).getD .skip) 104 61 43 158:=by constructor<;>first | kernel_rfl | (unfold fb;kernel_rfl) | (intros;kernel_rfl)
theorem f22.sound : Sound Go.Proofs.Tryz.prog 22 f22.S := qJ (fn := Go.Proofs.Tryz.f22) (E := f22.E) (c := ((Go.Proofs.Tryz.f22.body).getD .skip)) (tS := 104) (fa := 61) (tW := 43) (tF := 158) (by kernel_rfl) (by kernel_rfl) (by kernel_rfl) (by kernel_rfl) (by kernel_rfl) f22.parts ⟨fx, bK.nil _, FnsOk.nil⟩ rfl (by intros; kernel_rfl) (F := (fun n x => f212 n x.1 x.2.1 x.2.2.1 x.2.2.2.1 x.2.2.2.2.1 x.2.2.2.2.2.1 x.2.2.2.2.2.2.1 x.2.2.2.2.2.2.2.1 x.2.2.2.2.2.2.2.2.1 x.2.2.2.2.2.2.2.2.2.1 x.2.2.2.2.2.2.2.2.2.2.1)) (fun h _ _ _ hV hro => sv (fn := Go.Proofs.Tryz.f61) (E := f22.E) (c := ((Go.Proofs.Tryz.f61.body).getD .skip)) (name := "adit/minds.wants") (tW := 43) (tS := 104) (fw := 212) (by kernel_rfl) (by kernel_rfl) (by kernel_rfl) (by kernel_rfl) (by kernel_rfl) f22.ask ⟨fx, bK.nil _, FnsOk.nil⟩ rfl (by intros; kernel_rfl) (F := (fun n x => f212 n x.1 x.2.1 x.2.2.1 x.2.2.2.1 x.2.2.2.2.1 x.2.2.2.2.2.1 x.2.2.2.2.2.2.1 x.2.2.2.2.2.2.2.1 x.2.2.2.2.2.2.2.2.1 x.2.2.2.2.2.2.2.2.2.1 x.2.2.2.2.2.2.2.2.2.2.1)) f212.sound h hV hro)
def f114(a0 a1 a2 a3:Int)(a4:LZ)(a5:LE)(a6:LI)(a7 a8 a9 a10 a11:Int):Option (Bool×Unit) :=
 bif decide (a11≥0) then
 bif decide (a11<(↑(ln a5):Int)) then
 bif decide (a11<32) then
 bif ae a11 (ln a5) then
 some (((gd a5 (tn a11) zE).1 !=0,()))
 else
 none
 else
 some ((false,()))
 else
 some ((false,()))
 else
 some ((false,()))
def f114.S:ah:=⟨⟨[(0,wS),(1,n6)],[]⟩,[⟨[(0,nb)],[]⟩],[],fun(a,b,c,d,e,f,g,h,i,j,k,l,_)=>f114 a b c d e f g h i j k l⟩
theorem f114.sound:SO 114 f114.S:=so [] n0 [] [] [] 0 (by kernel_rfl) fun _=>by kernel_rfl
def f113(a0 a1 a2 a3:Int)(a4:LZ)(a5:LE)(a6:LI)(a7 a8 a9 a10:Int):Option (T0) :=
 ob (f103 a4) fun y0 =>
 ob (f104 a5) fun y1 =>
 ob (f105 a6) fun y2 =>
 some ((a0,a1,a2,a3,a7,a8,a9,a10,y0.1,y1.1,y2.1,()))
def f113.S:ah:=⟨⟨[(0,wS)],[]⟩,[⟨[(0,aw (.own 0) (.own 1) (.own 2))],[(0,a8),(1,aE),(2,aI)]⟩],[],fun(a,b,c,d,e,f,g,h,i,j,k,_)=>f113 a b c d e f g h i j k⟩
theorem f113.sound:SO 113 f113.S:=so [b f104.sound,b f105.sound,b f103.sound] n0 [] [] [] 0 (by kernel_rfl) fun _=>by kernel_rfl
def f190(a0 a1 a2 a3 a4 a5 a6:Int):Option (Bool×Unit) :=
 bif a0 !=0 then
 bif a1==a4 then
 bif a2==a5 then
 some ((a3==a6,()))
 else
 some ((false,()))
 else
 some ((false,()))
 else
 some ((false,()))
def f190.S:ah:=⟨⟨[(0,.agg [i6,i6,i6,i6]),(1,.c (.bptr (.int .i64))),(2,.c (.bptr (.int .i64))),(3,.c (.bptr (.int .i64)))],[]⟩,[⟨[(0,nb)],[]⟩],[],fun(a,b,c,d,e,f,g,_)=>f190 a b c d e f g⟩
theorem f190.sound:SO 190 f190.S:=so [] n0 [] [] [] 0 (by kernel_rfl) fun _=>by kernel_rfl
def f189.L1(x:LI×Int×fR):Option (fR) :=
 it (X:=LI×Int×fR) (fun rec x =>
 bif decide (x.2.2.1<x.2.1) then
 bif ae x.2.2.1 (ln x.1) then
 ob (f190 (gd x.1 (tn x.2.2.1) (0,0,0,0)).1 (gd x.1 (tn x.2.2.1) (0,0,0,0)).2.1 (gd x.1 (tn x.2.2.1) (0,0,0,0)).2.2.1 (gd x.1 (tn x.2.2.1) (0,0,0,0)).2.2.2 x.2.2.2.1 x.2.2.2.2.1 x.2.2.2.2.2.1) fun y0 =>
 bif y0.1 then
 some ((x.2.2.1,x.2.2.2.1,x.2.2.2.2.1,x.2.2.2.2.2.1,()))
 else
 rec (x.1,x.2.1,wp .i64 (x.2.2.1+1),x.2.2.2.1,x.2.2.2.2.1,x.2.2.2.2.2.1,())
 else
 none
 else
 some ((-1,x.2.2.2.1,x.2.2.2.2.1,x.2.2.2.2.2.1,()))
 ) (100000000000000000000) (x)
def f189(a0:LI)(a1 a2 a3:Int):Option (fR) :=
 f189.L1 ((a0,(↑(ln a0):Int),0,a1,a2,a3,()))
def f189.S:ah:=⟨⟨[(0,rI),(1,.c (.fn 190 [0,1,2]))],[(0,.box [i6]),(1,.box [i6]),(2,.box [i6])]⟩,[⟨[(0,n6)],[(0,.box [i6]),(1,.box [i6]),(2,.box [i6])]⟩],[0,1,2],fun(a,b,c,d,_)=>f189 a b c d⟩
theorem f189.sound:SO 189 f189.S:=so [b f190.sound] n0 [] [(3,⟨[(0,rI),(1,.c (.fn 190 [0,1,2])),(7,n6),(8,n6)],[(0,.box [i6]),(1,.box [i6]),(2,.box [i6])]⟩)] [] 3 (by kernel_rfl) fun _=>by kernel_rfl
def f180(a0 a1 a2 a3:Int)(a4:LZ)(a5:LE)(a6:LI)(a7 a8 a9 a10 a11 a12 a13:Int):Option (Int×Unit) :=
 ob (f189 a6 a11 a12 a13) fun y0 =>
 some ((y0.1,()))
def f180.S:ah:=⟨⟨[(0,wS),(1,n6),(2,n6),(3,n6)],[]⟩,[⟨[(0,n6)],[]⟩],[],fun(a,b,c,d,e,f,g,h,i,j,k,l,m,n,_)=>f180 a b c d e f g h i j k l m n⟩
theorem f180.sound:SO 180 f180.S:=so [b f189.sound] n0 [] [] [] 0 (by kernel_rfl) fun _=>by kernel_rfl
def f192(a0 a1 a2 a3:Int)(a4:LZ)(a5:LE)(a6:LI)(a7 a8 a9 a10 a11:Int):Option (T3) :=
 ob (α:=Int×sP⊕T3) (
 ob (f180 a0 a1 a2 a3 a4 a5 a6 a7 a8 a9 a10 3 a11 0) fun y7 =>
 bif decide (y7.1≥0) then
 some (il (a11,3,0,a0,a1,a2,a3,a4,a5,a6,a7,a8,a9,a10,()))
 else
 some (il (a11,0,0,a0,a1,a2,a3,a4,a5,a6,a7,a8,a9,a10,()))
 ) fun y0 =>
 el (fun y1=>match y1 with
 | (u1_0,u1_1,u1_2,u1_3,u1_4,u1_5,u1_6,u1_7,u1_8,u1_9,u1_10,u1_11,u1_12,u1_13,_) =>
 ob (α:=T3⊕T3) (
 ob (f180 u1_3 u1_4 u1_5 u1_6 u1_7 u1_8 u1_9 u1_10 u1_11 u1_12 u1_13 3 u1_0 1) fun y6 =>
 bif decide (y6.1≥0) then
 some (il (u1_1,2,()))
 else
 some (il (u1_1,u1_2,()))
 ) fun y3 =>
 el (fun y4 =>
 some ((y4.1,y4.2.1,()))
 ) (fun z5 =>
 some (z5)
 ) (y3)
 ) (fun z2 =>
 some (z2)
 ) (y0)
def f192.S:ah:=⟨⟨[(0,wS),(1,n6)],[]⟩,[⟨[(0,n6),(1,n6)],[]⟩],[],fun(a,b,c,d,e,f,g,h,i,j,k,l,_)=>f192 a b c d e f g h i j k l⟩
theorem f192.sound:SO 192 f192.S:=so [b f180.sound] n0 [(5,⟨[(1,n6),(2,pt 0),(6,n6),(7,n6)],[(0,bw q8 qE qI)]⟩),(7,⟨[(6,n6),(7,n6)],[]⟩)] [] [] 0 (by kernel_rfl) fun _=>by kernel_rfl
def f182(a0 a1 a2 a3:Int)(a4:LZ)(a5:LE)(a6:LI)(a7 a8 a9 a10 a11:Int):Option (T3) :=
 bif ae a11 (ln a5) then
 ob (α:=Int×Int×T1⊕T3) (
 bif (gd a5 (tn a11) zE).1==1 then
 ob (f192 a0 a1 a2 a3 a4 a5 a6 a7 a8 a9 a10 (gd a5 (tn a11) zE).2.2.1) fun y3 =>
 some (il (y3.1,y3.2.1,(gd a5 (tn a11) zE).1,(gd a5 (tn a11) zE).2.1,(gd a5 (tn a11) zE).2.2.1,(gd a5 (tn a11) zE).2.2.2.1,(gd a5 (tn a11) zE).2.2.2.2.1,(gd a5 (tn a11) zE).2.2.2.2.2.1,(gd a5 (tn a11) zE).2.2.2.2.2.2.1,(gd a5 (tn a11) zE).2.2.2.2.2.2.2.1,(gd a5 (tn a11) zE).2.2.2.2.2.2.2.2.1,(gd a5 (tn a11) zE).2.2.2.2.2.2.2.2.2.1,(gd a5 (tn a11) zE).2.2.2.2.2.2.2.2.2.2,()))
 else
 some (il (0,0,(gd a5 (tn a11) zE).1,(gd a5 (tn a11) zE).2.1,(gd a5 (tn a11) zE).2.2.1,(gd a5 (tn a11) zE).2.2.2.1,(gd a5 (tn a11) zE).2.2.2.2.1,(gd a5 (tn a11) zE).2.2.2.2.2.1,(gd a5 (tn a11) zE).2.2.2.2.2.2.1,(gd a5 (tn a11) zE).2.2.2.2.2.2.2.1,(gd a5 (tn a11) zE).2.2.2.2.2.2.2.2.1,(gd a5 (tn a11) zE).2.2.2.2.2.2.2.2.2.1,(gd a5 (tn a11) zE).2.2.2.2.2.2.2.2.2.2,()))
 ) fun y0 =>
 el (fun y1 =>
 some ((wp .i64 (y1.2.2.2.2.2.2.2.2.2.1+y1.1),wp .i64 (y1.2.2.2.2.2.2.2.2.2.2.1+y1.2.1),()))
 ) (fun z2 =>
 some (z2)
 ) (y0)
 else
 none
def f182.S:ah:=⟨⟨[(0,wS),(1,n6)],[]⟩,[⟨[(0,n6),(1,n6)],[]⟩],[],fun(a,b,c,d,e,f,g,h,i,j,k,l,_)=>f182 a b c d e f g h i j k l⟩
theorem f182.sound:SO 182 f182.S:=so [b f192.sound] n0 [(6,⟨[(6,pt 0),(7,n6),(8,n6)],[(0,bz)]⟩)] [] [] 0 (by kernel_rfl) fun _=>by kernel_rfl
def f116(a0:LE)(a1:Int):Option (LE×Unit) :=
 ob (f104 a0) fun y0 =>
 ob (α:=LE×Unit⊕LE×Unit) (
 bif decide (a1≥0) then
 ob (f162 a0) fun y4 =>
 bif decide (a1<(↑(ln y4.1):Int)) then
 bif ae a1 (ln a0) then
 bif ae a1 (ln y0.1) then
 let s0:LE:=ls y0.1 (tn a1) (0,(gd a0 (tn a1) zE).2.1,0,0,0,0,0,0,0,0,0)
 some (il (s0,()))
 else
 none
 else
 none
 else
 some (il (y0.1,()))
 else
 some (il (y0.1,()))
 ) fun y1 =>
 el (fun y2 =>
 some ((y2.1,()))
 ) (fun z3 =>
 some (z3)
 ) (y1)
def f116.S:ah:=⟨⟨[(0,rE),(1,n6)],[]⟩,[⟨[(0,ow 0)],[(0,aE)]⟩],[],fun x=>f116 x.1 x.2.1⟩
theorem f116.sound:SO 116 f116.S:=so [b f162.sound,b f104.sound] n0 [(5,⟨[(5,ow 0)],[(0,aE)]⟩)] [] [] 0 (by kernel_rfl) fun _=>by kernel_rfl
def f176(a0 a1 a2 a3:Int)(a4:LZ)(a5:LE)(a6:LI)(a7 a8 a9 a10:Int):Option (T0) :=
 ob (f103 a4) fun y0 =>
 ob (f104 a5) fun y1 =>
 ob (f105 a6) fun y2 =>
 some ((a0,a1,a2,a3,a7,a8,a9,a10,y0.1,y1.1,y2.1,()))
def f176.S:ah:=⟨⟨[(0,wS)],[]⟩,[⟨[(0,aw (.own 0) (.own 1) (.own 2))],[(0,a8),(1,aE),(2,aI)]⟩],[],fun(a,b,c,d,e,f,g,h,i,j,k,_)=>f176 a b c d e f g h i j k⟩
theorem f176.sound:SO 176 f176.S:=so [b f104.sound,b f105.sound,b f103.sound] n0 [] [] [] 0 (by kernel_rfl) fun _=>by kernel_rfl
def f161.L1(x:Int×Int×Int×T7):Option (T0) :=
 it (X:=Int×Int×Int×T7) (fun rec x=>match x with
 | (v0,v1,v2,v3,v4,v5,v6,v7,v8,v9,v10,v11,v12,v13,v14,v15,v16,v17,v18,v19,v20,v21,_) =>
 bif decide (v2<v1) then
 bif ae v2 (ln v19) then
 bif (gd v19 (tn v2) (0,0,0,0)).2.1==2 then
 bif (gd v19 (tn v2) (0,0,0,0)).2.2.1==v0 then
 bif ae v2 (ln v19) then
 rec (v0,v1,wp .i64 (v2+1),v3,v4,v5,v6,v7,v8,v9,v10,v11,v12,v13,v14,v15,v16,v17,v18,ls v19 (tn v2) (0,0,0,0),v20,v21,())
 else
 none
 else
 rec (v0,v1,wp .i64 (v2+1),v3,v4,v5,v6,v7,v8,v9,v10,v11,v12,v13,v14,v15,v16,v17,v18,v19,v20,v21,())
 else
 bif (gd v19 (tn v2) (0,0,0,0)).2.1==3 then
 bif (gd v19 (tn v2) (0,0,0,0)).2.2.1==v0 then
 bif ae v2 (ln v19) then
 rec (v0,v1,wp .i64 (v2+1),v3,v4,v5,v6,v7,v8,v9,v10,v11,v12,v13,v14,v15,v16,v17,v18,ls v19 (tn v2) (0,0,0,0),v20,v21,())
 else
 none
 else
 rec (v0,v1,wp .i64 (v2+1),v3,v4,v5,v6,v7,v8,v9,v10,v11,v12,v13,v14,v15,v16,v17,v18,v19,v20,v21,())
 else
 rec (v0,v1,wp .i64 (v2+1),v3,v4,v5,v6,v7,v8,v9,v10,v11,v12,v13,v14,v15,v16,v17,v18,v19,v20,v21,())
 else
 none
 else
 some ((v3,v4,v5,v6,v7,v8,v9,v10,v20,v21,v19,()))
 ) (100000000000000000000) (x)
def f161(a0 a1 a2 a3:Int)(a4:LZ)(a5:LE)(a6:LI)(a7 a8 a9 a10 a11:Int):Option (T0) :=
 ob (f176 a0 a1 a2 a3 a4 a5 a6 a7 a8 a9 a10) fun y0 =>
 f161.L1 ((a11,(↑(ln y0.2.2.2.2.2.2.2.2.2.2.1):Int),0,y0.1,y0.2.1,y0.2.2.1,y0.2.2.2.1,y0.2.2.2.2.1,y0.2.2.2.2.2.1,y0.2.2.2.2.2.2.1,y0.2.2.2.2.2.2.2.1,0,0,0,0,0,0,0,0,y0.2.2.2.2.2.2.2.2.2.2.1,y0.2.2.2.2.2.2.2.2.1,y0.2.2.2.2.2.2.2.2.2.1,()))
def f161.S:ah:=⟨⟨[(0,wS),(1,n6)],[]⟩,[⟨[(0,aw (.own 0) (.own 1) (.own 2))],[(0,a8),(1,aE),(2,aI)]⟩],[],fun(a,b,c,d,e,f,g,h,i,j,k,l,_)=>f161 a b c d e f g h i j k l⟩
theorem f161.sound:SO 161 f161.S:=so [b f176.sound] n0 [] [(4,⟨[(1,n6),(2,pt 0),(4,pt 1),(10,ow 2),(11,n6),(12,n6)],[(0,bw (.own 3) (.own 4) (.own 2)),(1,bw .nils .nils .nils),(2,aI),(3,a8),(4,aE)]⟩)] [] 0 (by kernel_rfl) fun _=>by kernel_rfl
def f115(a0 a1 a2 a3:Int)(a4:LZ)(a5:LE)(a6:LI)(a7 a8 a9 a10 a11 a12:Int):Option (T0) :=
 ob (f113 a0 a1 a2 a3 a4 a5 a6 a7 a8 a9 a10) fun y0 =>
 ob (f114 y0.1 y0.2.1 y0.2.2.1 y0.2.2.2.1 y0.2.2.2.2.2.2.2.2.1 y0.2.2.2.2.2.2.2.2.2.1 y0.2.2.2.2.2.2.2.2.2.2.1 y0.2.2.2.2.1 y0.2.2.2.2.2.1 y0.2.2.2.2.2.2.1 y0.2.2.2.2.2.2.2.1 a11) fun y1 =>
 bif !y1.1 then
 some ((y0.1,y0.2.1,y0.2.2.1,y0.2.2.2.1,y0.2.2.2.2.1,y0.2.2.2.2.2.1,y0.2.2.2.2.2.2.1,y0.2.2.2.2.2.2.2.1,y0.2.2.2.2.2.2.2.2.1,y0.2.2.2.2.2.2.2.2.2.1,y0.2.2.2.2.2.2.2.2.2.2.1,()))
 else
 bif decide (a12<1) then
 some ((y0.1,y0.2.1,y0.2.2.1,y0.2.2.2.1,y0.2.2.2.2.1,y0.2.2.2.2.2.1,y0.2.2.2.2.2.2.1,y0.2.2.2.2.2.2.2.1,y0.2.2.2.2.2.2.2.2.1,y0.2.2.2.2.2.2.2.2.2.1,y0.2.2.2.2.2.2.2.2.2.2.1,()))
 else
 bif ae a11 (ln y0.2.2.2.2.2.2.2.2.2.1) then
 bif decide ((gd y0.2.2.2.2.2.2.2.2.2.1 (tn a11) zE).2.2.2.2.2.1>a12) then
 let s0:LE:=ls y0.2.2.2.2.2.2.2.2.2.1 (tn a11) ((gd y0.2.2.2.2.2.2.2.2.2.1 (tn a11) zE).1,(gd y0.2.2.2.2.2.2.2.2.2.1 (tn a11) zE).2.1,(gd y0.2.2.2.2.2.2.2.2.2.1 (tn a11) zE).2.2.1,(gd y0.2.2.2.2.2.2.2.2.2.1 (tn a11) zE).2.2.2.1,(gd y0.2.2.2.2.2.2.2.2.2.1 (tn a11) zE).2.2.2.2.1,wp .i64 ((gd y0.2.2.2.2.2.2.2.2.2.1 (tn a11) zE).2.2.2.2.2.1-a12),(gd y0.2.2.2.2.2.2.2.2.2.1 (tn a11) zE).2.2.2.2.2.2.1,(gd y0.2.2.2.2.2.2.2.2.2.1 (tn a11) zE).2.2.2.2.2.2.2.1,(gd y0.2.2.2.2.2.2.2.2.2.1 (tn a11) zE).2.2.2.2.2.2.2.2.1,(gd y0.2.2.2.2.2.2.2.2.2.1 (tn a11) zE).2.2.2.2.2.2.2.2.2.1,(gd y0.2.2.2.2.2.2.2.2.2.1 (tn a11) zE).2.2.2.2.2.2.2.2.2.2)
 some ((y0.1,y0.2.1,y0.2.2.1,y0.2.2.2.1,y0.2.2.2.2.1,y0.2.2.2.2.2.1,y0.2.2.2.2.2.2.1,y0.2.2.2.2.2.2.2.1,y0.2.2.2.2.2.2.2.2.1,s0,y0.2.2.2.2.2.2.2.2.2.2.1,()))
 else
 ob (f116 y0.2.2.2.2.2.2.2.2.2.1 a11) fun y2 =>
 bif (gd y0.2.2.2.2.2.2.2.2.2.1 (tn a11) zE).1==1 then
 ob (f161 y0.1 y0.2.1 y0.2.2.1 y0.2.2.2.1 y0.2.2.2.2.2.2.2.2.1 y2.1 y0.2.2.2.2.2.2.2.2.2.2.1 y0.2.2.2.2.1 y0.2.2.2.2.2.1 y0.2.2.2.2.2.2.1 y0.2.2.2.2.2.2.2.1 (gd y0.2.2.2.2.2.2.2.2.2.1 (tn a11) zE).2.2.1) fun y3 =>
 some ((y3.1,y3.2.1,y3.2.2.1,y3.2.2.2.1,y3.2.2.2.2.1,y3.2.2.2.2.2.1,y3.2.2.2.2.2.2.1,y3.2.2.2.2.2.2.2.1,y3.2.2.2.2.2.2.2.2.1,y3.2.2.2.2.2.2.2.2.2.1,y3.2.2.2.2.2.2.2.2.2.2.1,()))
 else
 some ((y0.1,y0.2.1,y0.2.2.1,y0.2.2.2.1,y0.2.2.2.2.1,y0.2.2.2.2.2.1,y0.2.2.2.2.2.2.1,y0.2.2.2.2.2.2.2.1,y0.2.2.2.2.2.2.2.2.1,y2.1,y0.2.2.2.2.2.2.2.2.2.2.1,()))
 else
 none
def f115.S:ah:=⟨⟨[(0,wS),(1,n6),(2,n6)],[]⟩,[⟨[(0,aw (.own 0) (.own 1) (.own 2))],[(0,a8),(1,aE),(2,aI)]⟩],[],fun(a,b,c,d,e,f,g,h,i,j,k,l,m,_)=>f115 a b c d e f g h i j k l m⟩
theorem f115.sound:SO 115 f115.S:=so [b f114.sound,b f113.sound,b f116.sound,b f161.sound] n0 [] [] [] 0 (by kernel_rfl) fun _=>by kernel_rfl
def f160(a0 a1 a2 a3:Int)(a4:LZ)(a5:LE)(a6:LI)(a7 a8 a9 a10 a11 a12:Int):Option (T0) :=
 ob (f114 a0 a1 a2 a3 a4 a5 a6 a7 a8 a9 a10 a11) fun y0 =>
 bif !y0.1 then
 ob (f113 a0 a1 a2 a3 a4 a5 a6 a7 a8 a9 a10) fun y1 =>
 some ((y1.1,y1.2.1,y1.2.2.1,y1.2.2.2.1,y1.2.2.2.2.1,y1.2.2.2.2.2.1,y1.2.2.2.2.2.2.1,y1.2.2.2.2.2.2.2.1,y1.2.2.2.2.2.2.2.2.1,y1.2.2.2.2.2.2.2.2.2.1,y1.2.2.2.2.2.2.2.2.2.2.1,()))
 else
 ob (f114 a0 a1 a2 a3 a4 a5 a6 a7 a8 a9 a10 a12) fun y2 =>
 bif !y2.1 then
 ob (f113 a0 a1 a2 a3 a4 a5 a6 a7 a8 a9 a10) fun y3 =>
 some ((y3.1,y3.2.1,y3.2.2.1,y3.2.2.2.1,y3.2.2.2.2.1,y3.2.2.2.2.2.1,y3.2.2.2.2.2.2.1,y3.2.2.2.2.2.2.2.1,y3.2.2.2.2.2.2.2.2.1,y3.2.2.2.2.2.2.2.2.2.1,y3.2.2.2.2.2.2.2.2.2.2.1,()))
 else
 ob (f182 a0 a1 a2 a3 a4 a5 a6 a7 a8 a9 a10 a11) fun y4 =>
 ob (f182 a0 a1 a2 a3 a4 a5 a6 a7 a8 a9 a10 a12) fun y5 =>
 bif ae a11 (ln a5) then
 ob (f71 3 a0 [a1,a11,a12,77]) fun y6 =>
 ob (f115 a0 a1 a2 a3 a4 a5 a6 a7 a8 a9 a10 a12 (wp .i64 (cz 1 (wp .i64 (y4.1-y5.2.1))+y6.1))) fun y7 =>
 ob (f114 y7.1 y7.2.1 y7.2.2.1 y7.2.2.2.1 y7.2.2.2.2.2.2.2.2.1 y7.2.2.2.2.2.2.2.2.2.1 y7.2.2.2.2.2.2.2.2.2.2.1 y7.2.2.2.2.1 y7.2.2.2.2.2.1 y7.2.2.2.2.2.2.1 y7.2.2.2.2.2.2.2.1 a12) fun y8 =>
 bif !y8.1 then
 some ((y7.1,y7.2.1,y7.2.2.1,y7.2.2.2.1,y7.2.2.2.2.1,y7.2.2.2.2.2.1,y7.2.2.2.2.2.2.1,y7.2.2.2.2.2.2.2.1,y7.2.2.2.2.2.2.2.2.1,y7.2.2.2.2.2.2.2.2.2.1,y7.2.2.2.2.2.2.2.2.2.2.1,()))
 else
 bif ae a12 (ln y7.2.2.2.2.2.2.2.2.2.1) then
 ob (α:=T4⊕T0) (
 bif (gd a5 (tn a11) zE).1==4 then
 let s0:LE:=ls y7.2.2.2.2.2.2.2.2.2.1 (tn a12) ((gd y7.2.2.2.2.2.2.2.2.2.1 (tn a12) zE).1,(gd y7.2.2.2.2.2.2.2.2.2.1 (tn a12) zE).2.1,(gd y7.2.2.2.2.2.2.2.2.2.1 (tn a12) zE).2.2.1,(gd y7.2.2.2.2.2.2.2.2.2.1 (tn a12) zE).2.2.2.1,(gd y7.2.2.2.2.2.2.2.2.2.1 (tn a12) zE).2.2.2.2.1,(gd y7.2.2.2.2.2.2.2.2.2.1 (tn a12) zE).2.2.2.2.2.1,(gd y7.2.2.2.2.2.2.2.2.2.1 (tn a12) zE).2.2.2.2.2.2.1,(gd y7.2.2.2.2.2.2.2.2.2.1 (tn a12) zE).2.2.2.2.2.2.2.1,(gd y7.2.2.2.2.2.2.2.2.2.1 (tn a12) zE).2.2.2.2.2.2.2.2.1,aX (wp .i64 ((gd y7.2.2.2.2.2.2.2.2.2.1 (tn a12) zE).2.2.2.2.2.2.2.2.2.1+3)) 9,(gd y7.2.2.2.2.2.2.2.2.2.1 (tn a12) zE).2.2.2.2.2.2.2.2.2.2)
 some (il (y7.1,y7.2.1,y7.2.2.1,y7.2.2.2.1,y7.2.2.2.2.1,y7.2.2.2.2.2.1,y7.2.2.2.2.2.2.1,y7.2.2.2.2.2.2.2.1,0,0,0,0,0,0,0,0,y7.2.2.2.2.2.2.2.2.1,s0,y7.2.2.2.2.2.2.2.2.2.2.1,()))
 else
 bif (gd a5 (tn a11) zE).1==3 then
 ob (f71 4 y7.1 [y7.2.1,a11,a12,78]) fun y12 =>
 bif y12.1 !=0 then
 some (il (y7.1,y7.2.1,y7.2.2.1,y7.2.2.2.1,y7.2.2.2.2.1,y7.2.2.2.2.2.1,y7.2.2.2.2.2.2.1,y7.2.2.2.2.2.2.2.1,0,0,0,0,0,0,0,0,y7.2.2.2.2.2.2.2.2.1,y7.2.2.2.2.2.2.2.2.2.1,y7.2.2.2.2.2.2.2.2.2.2.1,()))
 else
 let s0:LE:=ls y7.2.2.2.2.2.2.2.2.2.1 (tn a12) ((gd y7.2.2.2.2.2.2.2.2.2.1 (tn a12) zE).1,(gd y7.2.2.2.2.2.2.2.2.2.1 (tn a12) zE).2.1,(gd y7.2.2.2.2.2.2.2.2.2.1 (tn a12) zE).2.2.1,(gd y7.2.2.2.2.2.2.2.2.2.1 (tn a12) zE).2.2.2.1,(gd y7.2.2.2.2.2.2.2.2.2.1 (tn a12) zE).2.2.2.2.1,(gd y7.2.2.2.2.2.2.2.2.2.1 (tn a12) zE).2.2.2.2.2.1,(gd y7.2.2.2.2.2.2.2.2.2.1 (tn a12) zE).2.2.2.2.2.2.1,(gd y7.2.2.2.2.2.2.2.2.2.1 (tn a12) zE).2.2.2.2.2.2.2.1,(gd y7.2.2.2.2.2.2.2.2.2.1 (tn a12) zE).2.2.2.2.2.2.2.2.1,(gd y7.2.2.2.2.2.2.2.2.2.1 (tn a12) zE).2.2.2.2.2.2.2.2.2.1,aX (wp .i64 ((gd y7.2.2.2.2.2.2.2.2.2.1 (tn a12) zE).2.2.2.2.2.2.2.2.2.2+2)) 9)
 some (il (y7.1,y7.2.1,y7.2.2.1,y7.2.2.2.1,y7.2.2.2.2.1,y7.2.2.2.2.2.1,y7.2.2.2.2.2.2.1,y7.2.2.2.2.2.2.2.1,0,0,0,0,0,0,0,0,y7.2.2.2.2.2.2.2.2.1,s0,y7.2.2.2.2.2.2.2.2.2.2.1,()))
 else
 some (il (y7.1,y7.2.1,y7.2.2.1,y7.2.2.2.1,y7.2.2.2.2.1,y7.2.2.2.2.2.1,y7.2.2.2.2.2.2.1,y7.2.2.2.2.2.2.2.1,0,0,0,0,0,0,0,0,y7.2.2.2.2.2.2.2.2.1,y7.2.2.2.2.2.2.2.2.2.1,y7.2.2.2.2.2.2.2.2.2.2.1,()))
 ) fun y9 =>
 el (fun y10=>match y10 with
 | (u10_0,u10_1,u10_2,u10_3,u10_4,u10_5,u10_6,u10_7,_,_,_,_,_,_,_,_,u10_16,u10_17,u10_18,_) =>
 some ((u10_0,u10_1,u10_2,u10_3,u10_4,u10_5,u10_6,u10_7,u10_16,u10_17,u10_18,()))
 ) (fun z11 =>
 some (z11)
 ) (y9)
 else
 none
 else
 none
def f160.S:ah:=⟨⟨[(0,wS),(1,n6),(2,n6)],[]⟩,[⟨[(0,aw (.own 0) (.own 1) (.own 2))],[(0,a8),(1,aE),(2,aI)]⟩],[],fun(a,b,c,d,e,f,g,h,i,j,k,l,m,_)=>f160 a b c d e f g h i j k l m⟩
theorem f160.sound:SO 160 f160.S:=so [b f71.sound,b f114.sound,b f113.sound,b f182.sound,b f115.sound] n0 [(17,⟨[(3,pt 0),(6,pt 1)],[(0,bw (.own 2) (.own 3) (.own 4)),(1,bw .nils .nils .nils),(2,a8),(3,aE),(4,aI)]⟩)] [] [] 0 (by kernel_rfl) fun _=>by kernel_rfl
def f112(a0 a1 a2 a3 a4 a5 a6 a7 a8 a9:Int)(a10 a11:Bool)(a12:LZ)(a13:LE)(a14:LI):Option (T2) :=
 bif ae a0 (ln a13) then
 ob (f78 a1) fun y0 =>
 ob (f96 a13 (wp .i64 ((gd a13 (tn a0) zE).2.2.2.1+y0.1)) (wp .i64 ((gd a13 (tn a0) zE).2.2.2.2.1+y0.2.1))) fun y1 =>
 ob (α:=Int×Hg⊕T2) (
 bif decide (y1.1<0) then
 ob (f95 a12 (wp .i64 ((gd a13 (tn a0) zE).2.2.2.1+y0.1)) (wp .i64 ((gd a13 (tn a0) zE).2.2.2.2.1+y0.2.1))) fun y6 =>
 ob (f15 y6.1) fun y7 =>
 some (il (a0,wp .i64 ((gd a13 (tn a0) zE).2.2.2.1+y0.1),wp .i64 ((gd a13 (tn a0) zE).2.2.2.2.1+y0.2.1),y1.1,y7.1,a2,a3,a4,a5,a6,a7,a8,a9,a10,a11,(gd a13 (tn a0) zE).1,(gd a13 (tn a0) zE).2.1,(gd a13 (tn a0) zE).2.2.1,(gd a13 (tn a0) zE).2.2.2.1,(gd a13 (tn a0) zE).2.2.2.2.1,(gd a13 (tn a0) zE).2.2.2.2.2.1,(gd a13 (tn a0) zE).2.2.2.2.2.2.1,(gd a13 (tn a0) zE).2.2.2.2.2.2.2.1,(gd a13 (tn a0) zE).2.2.2.2.2.2.2.2.1,(gd a13 (tn a0) zE).2.2.2.2.2.2.2.2.2.1,(gd a13 (tn a0) zE).2.2.2.2.2.2.2.2.2.2,a12,a13,a14,()))
 else
 some (il (a0,wp .i64 ((gd a13 (tn a0) zE).2.2.2.1+y0.1),wp .i64 ((gd a13 (tn a0) zE).2.2.2.2.1+y0.2.1),y1.1,false,a2,a3,a4,a5,a6,a7,a8,a9,a10,a11,(gd a13 (tn a0) zE).1,(gd a13 (tn a0) zE).2.1,(gd a13 (tn a0) zE).2.2.1,(gd a13 (tn a0) zE).2.2.2.1,(gd a13 (tn a0) zE).2.2.2.2.1,(gd a13 (tn a0) zE).2.2.2.2.2.1,(gd a13 (tn a0) zE).2.2.2.2.2.2.1,(gd a13 (tn a0) zE).2.2.2.2.2.2.2.1,(gd a13 (tn a0) zE).2.2.2.2.2.2.2.2.1,(gd a13 (tn a0) zE).2.2.2.2.2.2.2.2.2.1,(gd a13 (tn a0) zE).2.2.2.2.2.2.2.2.2.2,a12,a13,a14,()))
 ) fun y2 =>
 el (fun y3=>match y3 with
 | (u3_0,u3_1,u3_2,u3_3,u3_4,u3_5,u3_6,u3_7,u3_8,u3_9,u3_10,u3_11,u3_12,u3_13,u3_14,u3_15,_,_,_,_,_,_,_,_,_,_,u3_26,u3_27,u3_28,_) =>
 bif u3_4 then
 bif ae u3_0 (ln u3_27) then
 let s0:LE:=ls u3_27 (tn u3_0) ((gd u3_27 (tn u3_0) zE).1,(gd u3_27 (tn u3_0) zE).2.1,(gd u3_27 (tn u3_0) zE).2.2.1,u3_1,(gd u3_27 (tn u3_0) zE).2.2.2.2.1,(gd u3_27 (tn u3_0) zE).2.2.2.2.2.1,(gd u3_27 (tn u3_0) zE).2.2.2.2.2.2.1,(gd u3_27 (tn u3_0) zE).2.2.2.2.2.2.2.1,(gd u3_27 (tn u3_0) zE).2.2.2.2.2.2.2.2.1,(gd u3_27 (tn u3_0) zE).2.2.2.2.2.2.2.2.2.1,(gd u3_27 (tn u3_0) zE).2.2.2.2.2.2.2.2.2.2)
 bif ae u3_0 (ln s0) then
 let s1:LE:=ls s0 (tn u3_0) ((gd s0 (tn u3_0) zE).1,(gd s0 (tn u3_0) zE).2.1,(gd s0 (tn u3_0) zE).2.2.1,(gd s0 (tn u3_0) zE).2.2.2.1,u3_2,(gd s0 (tn u3_0) zE).2.2.2.2.2.1,(gd s0 (tn u3_0) zE).2.2.2.2.2.2.1,(gd s0 (tn u3_0) zE).2.2.2.2.2.2.2.1,(gd s0 (tn u3_0) zE).2.2.2.2.2.2.2.2.1,(gd s0 (tn u3_0) zE).2.2.2.2.2.2.2.2.2.1,(gd s0 (tn u3_0) zE).2.2.2.2.2.2.2.2.2.2)
 some ((u3_5,u3_6,u3_7,u3_8,u3_9,u3_10,u3_11,u3_12,u3_13,u3_14,u3_26,s1,u3_28,()))
 else
 none
 else
 none
 else
 bif decide (u3_3≥0) then
 bif ae u3_3 (ln u3_27) then
 bif !((gd u3_27 (tn u3_3) zE).1==1)==(u3_15==1) then
 ob (f160 u3_5 u3_6 u3_7 u3_8 u3_26 u3_27 u3_28 u3_9 u3_10 u3_11 u3_12 u3_0 u3_3) fun y5 =>
 some ((y5.1,y5.2.1,y5.2.2.1,y5.2.2.2.1,y5.2.2.2.2.1,y5.2.2.2.2.2.1,y5.2.2.2.2.2.2.1,y5.2.2.2.2.2.2.2.1,u3_13,u3_14,y5.2.2.2.2.2.2.2.2.1,y5.2.2.2.2.2.2.2.2.2.1,y5.2.2.2.2.2.2.2.2.2.2.1,()))
 else
 some ((u3_5,u3_6,u3_7,u3_8,u3_9,u3_10,u3_11,u3_12,u3_13,u3_14,u3_26,u3_27,u3_28,()))
 else
 none
 else
 some ((u3_5,u3_6,u3_7,u3_8,u3_9,u3_10,u3_11,u3_12,u3_13,u3_14,u3_26,u3_27,u3_28,()))
 ) (fun z4 =>
 some (z4)
 ) (y2)
 else
 none
def f112.S:ah:=⟨⟨[(0,pt 0),(1,n6),(2,n6)],[(0,bx (.own 1) (.own 2) (.own 3)),(1,a8),(2,aE),(3,aI)]⟩,[⟨[],[(0,bx (.own 4) (.own 5) (.own 6)),(4,a8),(5,aE),(6,aI)]⟩],[0],fun(a,b,c,d,e,f,g,h,i,j,k,l,m,n,o,_)=>f112 a b c d e f g h i j k l m n o⟩
theorem f112.sound:SO 112 f112.S:=so [b f15.sound,b f96.sound,b f78.sound,b f95.sound,b f160.sound] n0 [(6,⟨[(0,pt 0),(1,n6),(6,pt 4),(9,n6),(10,n6),(11,n6),(41,nb)],[(0,bx (.own 5) (.own 6) (.own 7)),(4,bz),(5,a8),(6,aE),(7,aI)]⟩)] [] [] 4 (by kernel_rfl) fun _=>by kernel_rfl
def f194(a0:Int):Option (Bool×Unit) :=
 some ((decide (a0<0),()))
def f194.S:ah:=⟨⟨[(0,n6)],[]⟩,[⟨[(0,nb)],[]⟩],[],fun x=>f194 x.1⟩
theorem f194.sound:SO 194 f194.S:=so [] n0 [] [] [] 0 (by kernel_rfl) fun _=>by kernel_rfl
def f187.L1(x:sP):Option (Int×Unit) :=
 it (X:=sP) (fun rec x=>match x with
 | (v0,v1,v2,v3,v4,v5,v6,v7,v8,v9,v10,v11,v12,_) =>
 bif decide (v1<4) then
 ob (f180 v2 v3 v4 v5 v6 v7 v8 v9 v10 v11 v12 2 v0 v1) fun y0 =>
 ob (f194 y0.1) fun y1 =>
 bif y1.1 then
 some ((v1,()))
 else
 rec (v0,wp .i64 (v1+1),v2,v3,v4,v5,v6,v7,v8,v9,v10,v11,v12,())
 else
 some ((-1,()))
 ) (100000000000000000000) (x)
def f187(a0 a1 a2 a3:Int)(a4:LZ)(a5:LE)(a6:LI)(a7 a8 a9 a10 a11:Int):Option (Int×Unit) :=
 f187.L1 ((a11,0,a0,a1,a2,a3,a4,a5,a6,a7,a8,a9,a10,()))
def f187.S:ah:=⟨⟨[(0,wS),(1,n6),(2,.c (.fn 194 []))],[]⟩,[⟨[(0,n6)],[]⟩],[],fun(a,b,c,d,e,f,g,h,i,j,k,l,_)=>f187 a b c d e f g h i j k l⟩
theorem f187.sound:SO 187 f187.S:=so [b f180.sound,b f194.sound] n0 [] [(3,⟨[(1,n6),(2,.c (.fn 194 [])),(3,pt 0),(8,n6)],[(0,bw q8 qE qI)]⟩)] [] 0 (by kernel_rfl) fun _=>by kernel_rfl
def f193(a0 a1 a2 a3:Int)(a4:LZ)(a5:LE)(a6:LI)(a7 a8 a9 a10 a11:Int):Option (Int×Unit) :=
 ob (f187 a0 a1 a2 a3 a4 a5 a6 a7 a8 a9 a10 a11) fun y0 =>
 some ((y0.1,()))
def f193.S:ah:=⟨⟨[(0,wS),(1,n6)],[]⟩,[⟨[(0,n6)],[]⟩],[],fun(a,b,c,d,e,f,g,h,i,j,k,l,_)=>f193 a b c d e f g h i j k l⟩
theorem f193.sound:SO 193 f193.S:=so [b f187.sound] n0 [] [] [] 0 (by kernel_rfl) fun _=>by kernel_rfl
def f186(a0 a1 a2 a3 a4 a5 a6 a7 a8 a9:Int)(a10:LZ)(a11:LE)(a12:LI):Option (Bool×T9) :=
 ob (f193 a0 a1 a2 a3 a10 a11 a12 a4 a5 a6 a7 a8) fun y0 =>
 bif decide (y0.1<0) then
 some ((false,a10,a11,a12,()))
 else
 bif ae a9 (ln a12) then
 let s0:LI:=ls a12 (tn a9) ((gd a12 (tn a9) (0,0,0,0)).1,2,(gd a12 (tn a9) (0,0,0,0)).2.2.1,(gd a12 (tn a9) (0,0,0,0)).2.2.2)
 let s1:LI:=ls s0 (tn a9) ((gd s0 (tn a9) (0,0,0,0)).1,(gd s0 (tn a9) (0,0,0,0)).2.1,a8,(gd s0 (tn a9) (0,0,0,0)).2.2.2)
 let s2:LI:=ls s1 (tn a9) ((gd s1 (tn a9) (0,0,0,0)).1,(gd s1 (tn a9) (0,0,0,0)).2.1,(gd s1 (tn a9) (0,0,0,0)).2.2.1,y0.1)
 some ((true,a10,a11,s2,()))
 else
 none
def f186.S:ah:=⟨⟨[(0,aw (.own 0) (.own 1) (.own 2)),(1,n6),(2,n6)],[(0,a8),(1,aE),(2,aI)]⟩,[⟨[(0,nb)],[(0,a8),(1,aE),(2,aI)]⟩],[0,1,2],fun(a,b,c,d,e,f,g,h,i,j,k,l,m,_)=>f186 a b c d e f g h i j k l m⟩
theorem f186.sound:SO 186 f186.S:=so [b f193.sound] n0 [] [] [] 3 (by kernel_rfl) fun _=>by kernel_rfl
def f177(a0 a1 a2 a3 a4 a5 a6 a7 a8 a9 a10 a11 a12 a13 a14 a15 a16 a17 a18 a19:Int)(a20:LZ)(a21:LE)(a22:LI):Option (T0) :=
 ob (f180 a12 a13 a14 a15 a20 a21 a22 a16 a17 a18 a19 1 a4 a5) fun y0 =>
 bif decide (y0.1<0) then
 some ((a12,a13,a14,a15,a16,a17,a18,a19,a20,a21,a22,()))
 else
 bif ae y0.1 (ln a22) then
 bif (gd a22 (tn y0.1) (0,0,0,0)).1==4 then
 bif ae y0.1 (ln a22) then
 bif ae a0 4 then
 bif ae a0 4 then
 some ((a12,a13,a14,a15,if tn a0=0/1 then aX (wp .i64 (gd [a16,a17,a18,a19] (tn a0) 0+5)) 999 else a16,if tn a0=(0+1)/1 then aX (wp .i64 (gd [a16,a17,a18,a19] (tn a0) 0+5)) 999 else a17,if tn a0=(0+1+1)/1 then aX (wp .i64 (gd [a16,a17,a18,a19] (tn a0) 0+5)) 999 else a18,if tn a0=(0+1+1+1)/1 then aX (wp .i64 (gd [a16,a17,a18,a19] (tn a0) 0+5)) 999 else a19,a20,a21,ls a22 (tn y0.1) (0,0,0,0),()))
 else
 none
 else
 none
 else
 none
 else
 ob (f186 a12 a13 a14 a15 a16 a17 a18 a19 a0 y0.1 a20 a21 a22) fun y1 =>
 some ((a12,a13,a14,a15,a16,a17,a18,a19,y1.2.1,y1.2.2.1,y1.2.2.2.1,()))
 else
 none
def f177.S:ah:=⟨⟨[(0,pt 0),(1,n6),(2,eS)],[(0,bw (.own 1) (.own 2) (.own 3)),(1,a8),(2,aE),(3,aI)]⟩,[⟨[],[(0,bw (.own 1) (.own 2) (.own 3)),(1,a8),(2,aE),(3,aI)]⟩],[0,1,2,3],fun(a,b,c,d,e,f,g,h,i,j,k,l,m,n,o,p,q,r,s,t,u,v,w,_)=>f177 a b c d e f g h i j k l m n o p q r s t u v w⟩
theorem f177.sound:SO 177 f177.S:=so [b f180.sound,b f186.sound] n0 [] [] [] 4 (by kernel_rfl) fun _=>by kernel_rfl
def f188(a0:Int)(a1:LZ)(a2:Gb):Option (Bool×Unit) :=
 bif decide (a0≥0) then
 bif ae a0 (ln a2.2.2.2.2.2.2.1) then
 ob (f129 a1 (gd a2.2.2.2.2.2.2.1 (tn a0) (0,0,0,0)).1) fun y0 =>
 some ((y0.1,()))
 else
 none
 else
 some ((false,()))
def f188.S:ah:=⟨⟨[(0,n6),(1,.c (.bptr (.row (.int .i64)))),(2,.c (.bptr (.prod (.int .i64) (.prod (.int .i64) (.prod (.int .i64) (.prod (.int .i64) (.prod (.row (.int .u8)) (.prod (.row tE) (.prod (.row tI) tI)))))))))],[]⟩,[⟨[(0,nb)],[]⟩],[],fun(a,b,c,_)=>f188 a b c⟩
theorem f188.sound:SO 188 f188.S:=so [b f129.sound] n0 [] [] [] 0 (by kernel_rfl) fun _=>by kernel_rfl
def f187_1.L1(x:Int×Int×LZ×xJ):Option (Int×LZ×T6) :=
 it (X:=Int×Int×LZ×xJ) (fun rec x=>match x with
 | (v0,v1,v2,v3,v4,v5,v6,v7,v8,v9,v10,v11,v12,v13,v14,v15,v16,v17,v18,v19,v20,v21,v22,v23,v24,_) =>
 bif decide (v1<4) then
 ob (f180 v14 v15 v16 v17 v18 v19 v20 v21 v22 v23 v24 2 v0 v1) fun y0 =>
 ob (f188 y0.1 v2 (v3,v4,v5,v6,v7,v8,v9,v10,v11,v12,v13)) fun y1 =>
 bif y1.1 then
 some ((v1,v2,v3,v4,v5,v6,v7,v8,v9,v10,v11,v12,v13,()))
 else
 rec (v0,wp .i64 (v1+1),v2,v3,v4,v5,v6,v7,v8,v9,v10,v11,v12,v13,v14,v15,v16,v17,v18,v19,v20,v21,v22,v23,v24,())
 else
 some ((-1,v2,v3,v4,v5,v6,v7,v8,v9,v10,v11,v12,v13,()))
 ) (100000000000000000000) (x)
def f187_1(a0 a1 a2 a3:Int)(a4:LZ)(a5:LE)(a6:LI)(a7 a8 a9 a10 a11:Int)(a12:LZ)(a13 a14 a15 a16:Int)(a17:LZ)(a18:LE)(a19:LI)(a20 a21 a22 a23:Int):Option (Int×LZ×T6) :=
 f187_1.L1 ((a11,0,a12,a13,a14,a15,a16,a17,a18,a19,a20,a21,a22,a23,a0,a1,a2,a3,a4,a5,a6,a7,a8,a9,a10,()))
def f187_1.S:ah:=⟨⟨[(0,wS),(1,n6),(2,.c (.fn 188 [0,1]))],[(0,.box [.row (.int .i64)]),(1,bw q8 qE qI)]⟩,[⟨[(0,n6)],[(0,.box [.row (.int .i64)]),(1,bw q8 qE qI)]⟩],[0,1],fun(a,b,c,d,e,f,g,h,i,j,k,l,m,n,o,p,q,r,s,t,u,v,w,y,_)=>f187_1 a b c d e f g h i j k l m n o p q r s t u v w y⟩
theorem f187_1.sound:SO 187 f187_1.S:=so [b f180.sound,b f188.sound] n0 [] [(3,⟨[(1,n6),(2,.c (.fn 188 [0,1])),(3,pt 2),(8,n6)],[(0,.box [.row (.int .i64)]),(1,bw q8 qE qI),(2,bw q8 qE qI)]⟩)] [] 2 (by kernel_rfl) fun _=>by kernel_rfl
def f178(a0 a1 a2 a3:Int)(a4:LZ)(a5:LE)(a6:LI)(a7 a8 a9 a10 a11:Int)(a12:LZ):Option (Int×Unit) :=
 ob (f187_1 a0 a1 a2 a3 a4 a5 a6 a7 a8 a9 a10 a11 a12 a0 a1 a2 a3 a4 a5 a6 a7 a8 a9 a10) fun y0 =>
 bif decide (y0.1<0) then
 some ((-1,()))
 else
 ob (f180 y0.2.2.1 y0.2.2.2.1 y0.2.2.2.2.1 y0.2.2.2.2.2.1 y0.2.2.2.2.2.2.1 y0.2.2.2.2.2.2.2.1 y0.2.2.2.2.2.2.2.2.1 y0.2.2.2.2.2.2.2.2.2.1 y0.2.2.2.2.2.2.2.2.2.2.1 y0.2.2.2.2.2.2.2.2.2.2.2.1 y0.2.2.2.2.2.2.2.2.2.2.2.2.1 2 a11 y0.1) fun y1 =>
 some ((y1.1,()))
def f178.S:ah:=⟨⟨[(0,wS),(1,n6),(2,.c (.row (.int .i64)))],[]⟩,[⟨[(0,n6)],[]⟩],[],fun(a,b,c,d,e,f,g,h,i,j,k,l,m,_)=>f178 a b c d e f g h i j k l m⟩
theorem f178.sound:SO 178 f178.S:=so [b f180.sound,b f187_1.sound] n0 [] [] [] 0 (by kernel_rfl) fun _=>by kernel_rfl
def f179(a0 a1 a2 a3 a4 a5 a6 a7 a8:Int)(a9:LZ)(a10:LE)(a11:LI):Option (T9) :=
 ob (f178 a0 a1 a2 a3 a9 a10 a11 a4 a5 a6 a7 a8 [2,3]) fun y0 =>
 bif decide (y0.1<0) then
 some ((a9,a10,a11,()))
 else
 bif ae y0.1 (ln a11) then
 ob (α:=Nat×Int×T9⊕T9) (
 ob (f180 a0 a1 a2 a3 a9 a10 a11 a4 a5 a6 a7 3 a8 (wp .i64 ((gd a11 (tn y0.1) (0,0,0,0)).1-2))) fun y4 =>
 bif decide (y4.1≥0) then
 bif ae y4.1 (ln a11) then
 let s0:LI:=ls a11 (tn y4.1) ((gd a11 (tn y4.1) (0,0,0,0)).1,2,(gd a11 (tn y4.1) (0,0,0,0)).2.2.1,(gd a11 (tn y4.1) (0,0,0,0)).2.2.2)
 bif ae y4.1 (ln s0) then
 let s1:LI:=ls s0 (tn y4.1) ((gd s0 (tn y4.1) (0,0,0,0)).1,(gd s0 (tn y4.1) (0,0,0,0)).2.1,(gd s0 (tn y4.1) (0,0,0,0)).2.2.1,(gd a11 (tn y0.1) (0,0,0,0)).2.2.2)
 some (il (tn y0.1,wp .i64 ((gd a11 (tn y0.1) (0,0,0,0)).1-2),a9,a10,s1,()))
 else
 none
 else
 none
 else
 some (il (tn y0.1,wp .i64 ((gd a11 (tn y0.1) (0,0,0,0)).1-2),a9,a10,a11,()))
 ) fun y1 =>
 el (fun y2 =>
 let s0:LI:=ls y2.2.2.2.2.1 y2.1 ((gd y2.2.2.2.2.1 y2.1 (0,0,0,0)).1,3,(gd y2.2.2.2.2.1 y2.1 (0,0,0,0)).2.2.1,(gd y2.2.2.2.2.1 y2.1 (0,0,0,0)).2.2.2)
 let s1:LI:=ls s0 y2.1 ((gd s0 y2.1 (0,0,0,0)).1,(gd s0 y2.1 (0,0,0,0)).2.1,(gd s0 y2.1 (0,0,0,0)).2.2.1,y2.2.1)
 some ((y2.2.2.1,y2.2.2.2.1,s1,()))
 ) (fun z3 =>
 some (z3)
 ) (y1)
 else
 none
def f179.S:ah:=⟨⟨[(0,aw (.own 0) (.own 1) (.own 2)),(1,n6)],[(0,a8),(1,aE),(2,aI)]⟩,[⟨[],[(0,a8),(1,aE),(2,aI)]⟩],[0,1,2],fun(a,b,c,d,e,f,g,h,i,j,k,l,_)=>f179 a b c d e f g h i j k l⟩
theorem f179.sound:SO 179 f179.S:=so [b f180.sound,b f178.sound] n0 [(9,⟨[(5,.c (.eptr 2 0)),(6,n6)],[(0,a8),(1,aE),(2,aI)]⟩)] [] [] 3 (by kernel_rfl) fun _=>by kernel_rfl
def f191(a0 a1 a2 a3 a4:Int):Option (Bool×Unit) :=
 bif a0 !=0 then
 bif a1==4 then
 some ((a2==a4,()))
 else
 some ((false,()))
 else
 some ((false,()))
def f191.S:ah:=⟨⟨[(0,.agg [i6,i6,i6,i6]),(1,.c (.bptr (.int .i64)))],[]⟩,[⟨[(0,nb)],[]⟩],[],fun(a,b,c,d,e,_)=>f191 a b c d e⟩
theorem f191.sound:SO 191 f191.S:=so [] n0 [] [] [] 0 (by kernel_rfl) fun _=>by kernel_rfl
def f189_1.L1(x:LI×Int×T3):Option (T3) :=
 it (X:=LI×Int×T3) (fun rec x =>
 bif decide (x.2.2.1<x.2.1) then
 bif ae x.2.2.1 (ln x.1) then
 ob (f191 (gd x.1 (tn x.2.2.1) (0,0,0,0)).1 (gd x.1 (tn x.2.2.1) (0,0,0,0)).2.1 (gd x.1 (tn x.2.2.1) (0,0,0,0)).2.2.1 (gd x.1 (tn x.2.2.1) (0,0,0,0)).2.2.2 x.2.2.2.1) fun y0 =>
 bif y0.1 then
 some ((x.2.2.1,x.2.2.2.1,()))
 else
 rec (x.1,x.2.1,wp .i64 (x.2.2.1+1),x.2.2.2.1,())
 else
 none
 else
 some ((-1,x.2.2.2.1,()))
 ) (100000000000000000000) (x)
def f189_1(a0:LI)(a1:Int):Option (T3) :=
 f189_1.L1 ((a0,(↑(ln a0):Int),0,a1,()))
def f189_1.S:ah:=⟨⟨[(0,rI),(1,.c (.fn 191 [0]))],[(0,.box [i6])]⟩,[⟨[(0,n6)],[(0,.box [i6])]⟩],[0],fun x=>f189_1 x.1 x.2.1⟩
theorem f189_1.sound:SO 189 f189_1.S:=so [b f191.sound] n0 [] [(3,⟨[(0,rI),(1,.c (.fn 191 [0])),(7,n6),(8,n6)],[(0,.box [i6])]⟩)] [] 1 (by kernel_rfl) fun _=>by kernel_rfl
def f181.L1(x:Int×Int×T0):Option (T0) :=
 it (X:=Int×Int×T0) (fun rec x=>match x with
 | (v0,v1,v2,v3,v4,v5,v6,v7,v8,v9,v10,v11,v12,_) =>
 bif decide (v1<3) then
 ob (f189_1 v12 v1) fun y0 =>
 bif decide (y0.1≥0) then
 ob (f186 v2 v3 v4 v5 v6 v7 v8 v9 v0 y0.1 v10 v11 v12) fun y1 =>
 bif y1.1 then
 bif ae v0 4 then
 bif ae v0 4 then
 some ((v2,v3,v4,v5,if tn v0=0/1 then wp .i64 (gd [v6,v7,v8,v9] (tn v0) 0-5) else v6,if tn v0=(0+1)/1 then wp .i64 (gd [v6,v7,v8,v9] (tn v0) 0-5) else v7,if tn v0=(0+1+1)/1 then wp .i64 (gd [v6,v7,v8,v9] (tn v0) 0-5) else v8,if tn v0=(0+1+1+1)/1 then wp .i64 (gd [v6,v7,v8,v9] (tn v0) 0-5) else v9,y1.2.1,y1.2.2.1,y1.2.2.2.1,()))
 else
 none
 else
 none
 else
 some ((v2,v3,v4,v5,v6,v7,v8,v9,y1.2.1,y1.2.2.1,y1.2.2.2.1,()))
 else
 rec (v0,wp .i64 (v1+1),v2,v3,v4,v5,v6,v7,v8,v9,v10,v11,v12,())
 else
 some ((v2,v3,v4,v5,v6,v7,v8,v9,v10,v11,v12,()))
 ) (100000000000000000000) (x)
def f181(a0 a1 a2 a3 a4 a5 a6 a7 a8 a9 a10 a11 a12 a13 a14 a15 a16 a17 a18 a19:Int)(a20:LZ)(a21:LE)(a22:LI):Option (T0) :=
 ob (f95 a20 a4 a5) fun y0 =>
 bif y0.1 !=5 then
 some ((a12,a13,a14,a15,a16,a17,a18,a19,a20,a21,a22,()))
 else
 bif ae a0 4 then
 bif decide (gd [a16,a17,a18,a19] (tn a0) 0<5) then
 some ((a12,a13,a14,a15,a16,a17,a18,a19,a20,a21,a22,()))
 else
 f181.L1 ((a0,0,a12,a13,a14,a15,a16,a17,a18,a19,a20,a21,a22,()))
 else
 none
def f181.S:ah:=⟨⟨[(0,pt 0),(1,n6),(2,eS)],[(0,bw (.own 1) (.own 2) (.own 3)),(1,a8),(2,aE),(3,aI)]⟩,[⟨[],[(0,bw (.own 1) (.own 2) (.own 3)),(1,a8),(2,aE),(3,aI)]⟩],[0,1,2,3],fun(a,b,c,d,e,f,g,h,i,j,k,l,m,n,o,p,q,r,s,t,u,v,w,_)=>f181 a b c d e f g h i j k l m n o p q r s t u v w⟩
theorem f181.sound:SO 181 f181.S:=so [b f95.sound,b f186.sound,b f189_1.sound] n0 [] [(4,⟨[(0,pt 0),(1,n6),(27,n6)],[(0,bw (.own 1) (.own 2) (.own 3)),(1,a8),(2,aE),(3,aI)]⟩)] [] 4 (by kernel_rfl) fun _=>by kernel_rfl
def f159(a0 a1 a2 a3:Int)(a4:LZ)(a5:LE)(a6:LI)(a7 a8 a9 a10 a11 a12:Int):Option (T0) :=
 ob (f176 a0 a1 a2 a3 a4 a5 a6 a7 a8 a9 a10) fun y0 =>
 ob (f97 y0.2.2.2.2.2.2.2.2.2.1 a11) fun y1 =>
 bif decide (y1.1<0) then
 some ((y0.1,y0.2.1,y0.2.2.1,y0.2.2.2.1,y0.2.2.2.2.1,y0.2.2.2.2.2.1,y0.2.2.2.2.2.2.1,y0.2.2.2.2.2.2.2.1,y0.2.2.2.2.2.2.2.2.1,y0.2.2.2.2.2.2.2.2.2.1,y0.2.2.2.2.2.2.2.2.2.2.1,()))
 else
 bif decide (a11<0) then
 some ((y0.1,y0.2.1,y0.2.2.1,y0.2.2.2.1,y0.2.2.2.2.1,y0.2.2.2.2.2.1,y0.2.2.2.2.2.2.1,y0.2.2.2.2.2.2.2.1,y0.2.2.2.2.2.2.2.2.1,y0.2.2.2.2.2.2.2.2.2.1,y0.2.2.2.2.2.2.2.2.2.2.1,()))
 else
 bif decide (a11≥4) then
 some ((y0.1,y0.2.1,y0.2.2.1,y0.2.2.2.1,y0.2.2.2.2.1,y0.2.2.2.2.2.1,y0.2.2.2.2.2.2.1,y0.2.2.2.2.2.2.2.1,y0.2.2.2.2.2.2.2.2.1,y0.2.2.2.2.2.2.2.2.2.1,y0.2.2.2.2.2.2.2.2.2.2.1,()))
 else
 bif ae y1.1 (ln y0.2.2.2.2.2.2.2.2.2.1) then
 ob (α:=T4⊕T0) (
 bif a12==5 then
 ob (f177 a11 (gd y0.2.2.2.2.2.2.2.2.2.1 (tn y1.1) zE).1 (gd y0.2.2.2.2.2.2.2.2.2.1 (tn y1.1) zE).2.1 (gd y0.2.2.2.2.2.2.2.2.2.1 (tn y1.1) zE).2.2.1 (gd y0.2.2.2.2.2.2.2.2.2.1 (tn y1.1) zE).2.2.2.1 (gd y0.2.2.2.2.2.2.2.2.2.1 (tn y1.1) zE).2.2.2.2.1 (gd y0.2.2.2.2.2.2.2.2.2.1 (tn y1.1) zE).2.2.2.2.2.1 (gd y0.2.2.2.2.2.2.2.2.2.1 (tn y1.1) zE).2.2.2.2.2.2.1 (gd y0.2.2.2.2.2.2.2.2.2.1 (tn y1.1) zE).2.2.2.2.2.2.2.1 (gd y0.2.2.2.2.2.2.2.2.2.1 (tn y1.1) zE).2.2.2.2.2.2.2.2.1 (gd y0.2.2.2.2.2.2.2.2.2.1 (tn y1.1) zE).2.2.2.2.2.2.2.2.2.1 (gd y0.2.2.2.2.2.2.2.2.2.1 (tn y1.1) zE).2.2.2.2.2.2.2.2.2.2 y0.1 y0.2.1 y0.2.2.1 y0.2.2.2.1 y0.2.2.2.2.1 y0.2.2.2.2.2.1 y0.2.2.2.2.2.2.1 y0.2.2.2.2.2.2.2.1 y0.2.2.2.2.2.2.2.2.1 y0.2.2.2.2.2.2.2.2.2.1 y0.2.2.2.2.2.2.2.2.2.2.1) fun y5 =>
 some (il (y5.1,y5.2.1,y5.2.2.1,y5.2.2.2.1,y5.2.2.2.2.1,y5.2.2.2.2.2.1,y5.2.2.2.2.2.2.1,y5.2.2.2.2.2.2.2.1,0,0,0,0,0,0,0,0,y5.2.2.2.2.2.2.2.2.1,y5.2.2.2.2.2.2.2.2.2.1,y5.2.2.2.2.2.2.2.2.2.2.1,()))
 else
 bif a12==6 then
 ob (f178 y0.1 y0.2.1 y0.2.2.1 y0.2.2.2.1 y0.2.2.2.2.2.2.2.2.1 y0.2.2.2.2.2.2.2.2.2.1 y0.2.2.2.2.2.2.2.2.2.2.1 y0.2.2.2.2.1 y0.2.2.2.2.2.1 y0.2.2.2.2.2.2.1 y0.2.2.2.2.2.2.2.1 a11 [1]) fun y6 =>
 bif decide (y6.1≥0) then
 bif ae y6.1 (ln y0.2.2.2.2.2.2.2.2.2.2.1) then
 let s0:LE:=ls y0.2.2.2.2.2.2.2.2.2.1 (tn y1.1) ((gd y0.2.2.2.2.2.2.2.2.2.1 (tn y1.1) zE).1,(gd y0.2.2.2.2.2.2.2.2.2.1 (tn y1.1) zE).2.1,(gd y0.2.2.2.2.2.2.2.2.2.1 (tn y1.1) zE).2.2.1,(gd y0.2.2.2.2.2.2.2.2.2.1 (tn y1.1) zE).2.2.2.1,(gd y0.2.2.2.2.2.2.2.2.2.1 (tn y1.1) zE).2.2.2.2.1,aX (wp .i64 ((gd y0.2.2.2.2.2.2.2.2.2.1 (tn y1.1) zE).2.2.2.2.2.1+6)) (gd y0.2.2.2.2.2.2.2.2.2.1 (tn y1.1) zE).2.2.2.2.2.2.1,(gd y0.2.2.2.2.2.2.2.2.2.1 (tn y1.1) zE).2.2.2.2.2.2.1,(gd y0.2.2.2.2.2.2.2.2.2.1 (tn y1.1) zE).2.2.2.2.2.2.2.1,(gd y0.2.2.2.2.2.2.2.2.2.1 (tn y1.1) zE).2.2.2.2.2.2.2.2.1,(gd y0.2.2.2.2.2.2.2.2.2.1 (tn y1.1) zE).2.2.2.2.2.2.2.2.2.1,(gd y0.2.2.2.2.2.2.2.2.2.1 (tn y1.1) zE).2.2.2.2.2.2.2.2.2.2)
 let s1:LE:=ls s0 (tn y1.1) ((gd s0 (tn y1.1) zE).1,(gd s0 (tn y1.1) zE).2.1,(gd s0 (tn y1.1) zE).2.2.1,(gd s0 (tn y1.1) zE).2.2.2.1,(gd s0 (tn y1.1) zE).2.2.2.2.1,(gd s0 (tn y1.1) zE).2.2.2.2.2.1,(gd s0 (tn y1.1) zE).2.2.2.2.2.2.1,(gd s0 (tn y1.1) zE).2.2.2.2.2.2.2.1,(gd s0 (tn y1.1) zE).2.2.2.2.2.2.2.2.1,0,(gd s0 (tn y1.1) zE).2.2.2.2.2.2.2.2.2.2)
 some (il (y0.1,y0.2.1,y0.2.2.1,y0.2.2.2.1,y0.2.2.2.2.1,y0.2.2.2.2.2.1,y0.2.2.2.2.2.2.1,y0.2.2.2.2.2.2.2.1,0,0,0,0,0,0,0,0,y0.2.2.2.2.2.2.2.2.1,s1,ls y0.2.2.2.2.2.2.2.2.2.2.1 (tn y6.1) (0,0,0,0),()))
 else
 none
 else
 some (il (y0.1,y0.2.1,y0.2.2.1,y0.2.2.2.1,y0.2.2.2.2.1,y0.2.2.2.2.2.1,y0.2.2.2.2.2.2.1,y0.2.2.2.2.2.2.2.1,0,0,0,0,0,0,0,0,y0.2.2.2.2.2.2.2.2.1,y0.2.2.2.2.2.2.2.2.2.1,y0.2.2.2.2.2.2.2.2.2.2.1,()))
 else
 bif a12==7 then
 ob (f179 y0.1 y0.2.1 y0.2.2.1 y0.2.2.2.1 y0.2.2.2.2.1 y0.2.2.2.2.2.1 y0.2.2.2.2.2.2.1 y0.2.2.2.2.2.2.2.1 a11 y0.2.2.2.2.2.2.2.2.1 y0.2.2.2.2.2.2.2.2.2.1 y0.2.2.2.2.2.2.2.2.2.2.1) fun y7 =>
 some (il (y0.1,y0.2.1,y0.2.2.1,y0.2.2.2.1,y0.2.2.2.2.1,y0.2.2.2.2.2.1,y0.2.2.2.2.2.2.1,y0.2.2.2.2.2.2.2.1,0,0,0,0,0,0,0,0,y7.1,y7.2.1,y7.2.2.1,()))
 else
 bif a12==8 then
 ob (f178 y0.1 y0.2.1 y0.2.2.1 y0.2.2.2.1 y0.2.2.2.2.2.2.2.2.1 y0.2.2.2.2.2.2.2.2.2.1 y0.2.2.2.2.2.2.2.2.2.2.1 y0.2.2.2.2.1 y0.2.2.2.2.2.1 y0.2.2.2.2.2.2.1 y0.2.2.2.2.2.2.2.1 a11 [1,2,3,4]) fun y8 =>
 ob (α:=Nat×Int×Bool×Hq⊕T4⊕T0) (
 bif decide (y8.1≥0) then
 ob (f180 y0.1 y0.2.1 y0.2.2.1 y0.2.2.2.1 y0.2.2.2.2.2.2.2.2.1 y0.2.2.2.2.2.2.2.2.2.1 y0.2.2.2.2.2.2.2.2.2.2.1 y0.2.2.2.2.1 y0.2.2.2.2.2.1 y0.2.2.2.2.2.2.1 y0.2.2.2.2.2.2.2.1 1 (gd y0.2.2.2.2.2.2.2.2.2.1 (tn y1.1) zE).2.2.2.1 (gd y0.2.2.2.2.2.2.2.2.2.1 (tn y1.1) zE).2.2.2.2.1) fun y12 =>
 some (il (tn y1.1,y8.1,decide (y12.1<0),y0.1,y0.2.1,y0.2.2.1,y0.2.2.2.1,y0.2.2.2.2.1,y0.2.2.2.2.2.1,y0.2.2.2.2.2.2.1,y0.2.2.2.2.2.2.2.1,0,0,0,0,0,0,0,0,y0.2.2.2.2.2.2.2.2.2.1,y0.2.2.2.2.2.2.2.2.1,y0.2.2.2.2.2.2.2.2.2.2.1,()))
 else
 some (il (tn y1.1,y8.1,false,y0.1,y0.2.1,y0.2.2.1,y0.2.2.2.1,y0.2.2.2.2.1,y0.2.2.2.2.2.1,y0.2.2.2.2.2.2.1,y0.2.2.2.2.2.2.2.1,0,0,0,0,0,0,0,0,y0.2.2.2.2.2.2.2.2.2.1,y0.2.2.2.2.2.2.2.2.1,y0.2.2.2.2.2.2.2.2.2.2.1,()))
 ) fun y9 =>
 el (fun y10=>match y10 with
 | (u10_0,u10_1,u10_2,u10_3,u10_4,u10_5,u10_6,u10_7,u10_8,u10_9,u10_10,u10_11,u10_12,u10_13,u10_14,u10_15,u10_16,u10_17,u10_18,u10_19,u10_20,u10_21,_) =>
 bif u10_2 then
 bif ae u10_1 (ln u10_21) then
 let s0:LI:=ls u10_21 (tn u10_1) ((gd u10_21 (tn u10_1) (0,0,0,0)).1,1,(gd u10_21 (tn u10_1) (0,0,0,0)).2.2.1,(gd u10_21 (tn u10_1) (0,0,0,0)).2.2.2)
 let s1:LI:=ls s0 (tn u10_1) ((gd s0 (tn u10_1) (0,0,0,0)).1,(gd s0 (tn u10_1) (0,0,0,0)).2.1,(gd u10_19 u10_0 zE).2.2.2.1,(gd s0 (tn u10_1) (0,0,0,0)).2.2.2)
 let s2:LI:=ls s1 (tn u10_1) ((gd s1 (tn u10_1) (0,0,0,0)).1,(gd s1 (tn u10_1) (0,0,0,0)).2.1,(gd s1 (tn u10_1) (0,0,0,0)).2.2.1,(gd u10_19 u10_0 zE).2.2.2.2.1)
 some (il (u10_3,u10_4,u10_5,u10_6,u10_7,u10_8,u10_9,u10_10,u10_11,u10_12,u10_13,u10_14,u10_15,u10_16,u10_17,u10_18,u10_20,u10_19,s2,()))
 else
 none
 else
 some (il (u10_3,u10_4,u10_5,u10_6,u10_7,u10_8,u10_9,u10_10,u10_11,u10_12,u10_13,u10_14,u10_15,u10_16,u10_17,u10_18,u10_20,u10_19,u10_21,()))
 ) (fun z11 =>
 some (z11)
 ) (y9)
 else
 bif a12==10 then
 ob (f181 a11 (gd y0.2.2.2.2.2.2.2.2.2.1 (tn y1.1) zE).1 (gd y0.2.2.2.2.2.2.2.2.2.1 (tn y1.1) zE).2.1 (gd y0.2.2.2.2.2.2.2.2.2.1 (tn y1.1) zE).2.2.1 (gd y0.2.2.2.2.2.2.2.2.2.1 (tn y1.1) zE).2.2.2.1 (gd y0.2.2.2.2.2.2.2.2.2.1 (tn y1.1) zE).2.2.2.2.1 (gd y0.2.2.2.2.2.2.2.2.2.1 (tn y1.1) zE).2.2.2.2.2.1 (gd y0.2.2.2.2.2.2.2.2.2.1 (tn y1.1) zE).2.2.2.2.2.2.1 (gd y0.2.2.2.2.2.2.2.2.2.1 (tn y1.1) zE).2.2.2.2.2.2.2.1 (gd y0.2.2.2.2.2.2.2.2.2.1 (tn y1.1) zE).2.2.2.2.2.2.2.2.1 (gd y0.2.2.2.2.2.2.2.2.2.1 (tn y1.1) zE).2.2.2.2.2.2.2.2.2.1 (gd y0.2.2.2.2.2.2.2.2.2.1 (tn y1.1) zE).2.2.2.2.2.2.2.2.2.2 y0.1 y0.2.1 y0.2.2.1 y0.2.2.2.1 y0.2.2.2.2.1 y0.2.2.2.2.2.1 y0.2.2.2.2.2.2.1 y0.2.2.2.2.2.2.2.1 y0.2.2.2.2.2.2.2.2.1 y0.2.2.2.2.2.2.2.2.2.1 y0.2.2.2.2.2.2.2.2.2.2.1) fun y13 =>
 some (il (y13.1,y13.2.1,y13.2.2.1,y13.2.2.2.1,y13.2.2.2.2.1,y13.2.2.2.2.2.1,y13.2.2.2.2.2.2.1,y13.2.2.2.2.2.2.2.1,0,0,0,0,0,0,0,0,y13.2.2.2.2.2.2.2.2.1,y13.2.2.2.2.2.2.2.2.2.1,y13.2.2.2.2.2.2.2.2.2.2.1,()))
 else
 some (il (y0.1,y0.2.1,y0.2.2.1,y0.2.2.2.1,y0.2.2.2.2.1,y0.2.2.2.2.2.1,y0.2.2.2.2.2.2.1,y0.2.2.2.2.2.2.2.1,0,0,0,0,0,0,0,0,y0.2.2.2.2.2.2.2.2.1,y0.2.2.2.2.2.2.2.2.2.1,y0.2.2.2.2.2.2.2.2.2.2.1,()))
 ) fun y2 =>
 el (fun y3=>match y3 with
 | (u3_0,u3_1,u3_2,u3_3,u3_4,u3_5,u3_6,u3_7,_,_,_,_,_,_,_,_,u3_16,u3_17,u3_18,_) =>
 some ((u3_0,u3_1,u3_2,u3_3,u3_4,u3_5,u3_6,u3_7,u3_16,u3_17,u3_18,()))
 ) (fun z4 =>
 some (z4)
 ) (y2)
 else
 none
def f159.S:ah:=⟨⟨[(0,wS),(1,n6),(2,n6)],[]⟩,[⟨[(0,aw (.own 0) (.own 1) (.own 2))],[(0,a8),(1,aE),(2,aI)]⟩],[],fun(a,b,c,d,e,f,g,h,i,j,k,l,m,_)=>f159 a b c d e f g h i j k l m⟩
theorem f159.sound:SO 159 f159.S:=so [b f97.sound,b f180.sound,b f176.sound,b f177.sound,b f178.sound,b f179.sound,b f181.sound] n0 [(20,⟨[(3,pt 0),(6,pt 1),(8,.c (.eptr 2 0)),(10,n6),(95,nb)],[(0,bw (.own 3) (.own 2) (.own 4)),(1,bw .nils .nils .nils),(2,aE),(3,a8),(4,aI)]⟩),(24,⟨[(3,pt 0),(6,pt 1)],[(0,bw (.own 2) (.own 3) (.own 4)),(1,bw .nils .nils .nils),(2,a8),(3,aE),(4,aI)]⟩)] [] [] 0 (by kernel_rfl) fun _=>by kernel_rfl
def f110(a0 a1 a2 a3 a4 a5 a6 a7 a8 a9 a10:Int)(a11 a12:Bool)(a13:LZ)(a14:LE)(a15:LI):Option (T2) :=
 bif ae a1 (ln a14) then
 ob (α:=Hg⊕T2) (
 bif decide (a2≥1) then
 some (il (a0,a1,a2,decide (a2≤4),a3,a4,a5,a6,a7,a8,a9,a10,a11,a12,(gd a14 (tn a1) zE).1,(gd a14 (tn a1) zE).2.1,(gd a14 (tn a1) zE).2.2.1,(gd a14 (tn a1) zE).2.2.2.1,(gd a14 (tn a1) zE).2.2.2.2.1,(gd a14 (tn a1) zE).2.2.2.2.2.1,(gd a14 (tn a1) zE).2.2.2.2.2.2.1,(gd a14 (tn a1) zE).2.2.2.2.2.2.2.1,(gd a14 (tn a1) zE).2.2.2.2.2.2.2.2.1,(gd a14 (tn a1) zE).2.2.2.2.2.2.2.2.2.1,(gd a14 (tn a1) zE).2.2.2.2.2.2.2.2.2.2,a13,a14,a15,()))
 else
 some (il (a0,a1,a2,false,a3,a4,a5,a6,a7,a8,a9,a10,a11,a12,(gd a14 (tn a1) zE).1,(gd a14 (tn a1) zE).2.1,(gd a14 (tn a1) zE).2.2.1,(gd a14 (tn a1) zE).2.2.2.1,(gd a14 (tn a1) zE).2.2.2.2.1,(gd a14 (tn a1) zE).2.2.2.2.2.1,(gd a14 (tn a1) zE).2.2.2.2.2.2.1,(gd a14 (tn a1) zE).2.2.2.2.2.2.2.1,(gd a14 (tn a1) zE).2.2.2.2.2.2.2.2.1,(gd a14 (tn a1) zE).2.2.2.2.2.2.2.2.2.1,(gd a14 (tn a1) zE).2.2.2.2.2.2.2.2.2.2,a13,a14,a15,()))
 ) fun y0 =>
 el (fun y1=>match y1 with
 | (u1_0,u1_1,u1_2,u1_3,u1_4,u1_5,u1_6,u1_7,u1_8,u1_9,u1_10,u1_11,u1_12,u1_13,_,_,_,u1_17,u1_18,_,_,_,_,_,_,u1_25,u1_26,u1_27,_) =>
 bif u1_3 then
 ob (f112 u1_1 u1_2 u1_4 u1_5 u1_6 u1_7 u1_8 u1_9 u1_10 u1_11 u1_12 u1_13 u1_25 u1_26 u1_27) fun y3 =>
 some ((y3.1,y3.2.1,y3.2.2.1,y3.2.2.2.1,y3.2.2.2.2.1,y3.2.2.2.2.2.1,y3.2.2.2.2.2.2.1,y3.2.2.2.2.2.2.2.1,y3.2.2.2.2.2.2.2.2.1,y3.2.2.2.2.2.2.2.2.2.1,y3.2.2.2.2.2.2.2.2.2.2.1,y3.2.2.2.2.2.2.2.2.2.2.2.1,y3.2.2.2.2.2.2.2.2.2.2.2.2.1,()))
 else
 bif u1_2==9 then
 bif u1_13 then
 some ((u1_4,u1_5,u1_6,u1_7,u1_8,u1_9,u1_10,u1_11,u1_12,true,u1_25,u1_26,u1_27,()))
 else
 ob (f95 u1_25 u1_17 u1_18) fun y4 =>
 some ((u1_4,u1_5,u1_6,u1_7,u1_8,u1_9,u1_10,u1_11,u1_12,y4.1==4,u1_25,u1_26,u1_27,()))
 else
 bif decide (u1_2>4) then
 bif decide (u1_2≤10) then
 ob (f159 u1_4 u1_5 u1_6 u1_7 u1_25 u1_26 u1_27 u1_8 u1_9 u1_10 u1_11 u1_0 u1_2) fun y5 =>
 some ((y5.1,y5.2.1,y5.2.2.1,y5.2.2.2.1,y5.2.2.2.2.1,y5.2.2.2.2.2.1,y5.2.2.2.2.2.2.1,y5.2.2.2.2.2.2.2.1,u1_12,u1_13,y5.2.2.2.2.2.2.2.2.1,y5.2.2.2.2.2.2.2.2.2.1,y5.2.2.2.2.2.2.2.2.2.2.1,()))
 else
 some ((u1_4,u1_5,u1_6,u1_7,u1_8,u1_9,u1_10,u1_11,u1_12,u1_13,u1_25,u1_26,u1_27,()))
 else
 some ((u1_4,u1_5,u1_6,u1_7,u1_8,u1_9,u1_10,u1_11,u1_12,u1_13,u1_25,u1_26,u1_27,()))
 ) (fun z2 =>
 some (z2)
 ) (y0)
 else
 none
def f110.S:ah:=⟨⟨[(0,pt 0),(1,n6),(2,n6),(3,n6)],[(0,bx (.own 1) (.own 2) (.own 3)),(1,a8),(2,aE),(3,aI)]⟩,[⟨[],[(0,bx (.own 4) (.own 5) (.own 6)),(4,a8),(5,aE),(6,aI)]⟩],[0],fun(a,b,c,d,e,f,g,h,i,j,k,l,m,n,o,p,_)=>f110 a b c d e f g h i j k l m n o p⟩
theorem f110.sound:SO 110 f110.S:=so [b f95.sound,b f112.sound,b f159.sound] n0 [(3,⟨[(0,pt 0),(1,n6),(2,n6),(3,n6),(8,pt 4),(17,nb)],[(0,bx (.own 5) (.own 6) (.own 7)),(4,bz),(5,a8),(6,aE),(7,aI)]⟩)] [] [] 4 (by kernel_rfl) fun _=>by kernel_rfl
def f56(a0 a1 a2:Int)(a3:Bool)(a4 a5 a6 a7 a8 a9 a10 a11:Int)(a12 a13:Bool)(a14:LZ)(a15:LE)(a16:LI):Option (T2) :=
 ob (f97 a15 a0) fun y0 =>
 bif decide (y0.1<0) then
 some ((a4,a5,a6,a7,a8,a9,a10,a11,a12,a13,a14,a15,a16,()))
 else
 bif ae y0.1 (ln a15) then
 bif decide ((gd a15 (tn y0.1) zE).2.2.2.2.2.2.2.2.2.2>0) then
 some ((a4,a5,a6,a7,a8,a9,a10,a11,a12,a13,a14,a15,a16,()))
 else
 ob (α:=Int×Int×Int×T2⊕T2) (
 bif a1==2 then
 ob (f22 a4 a5 a6 a7 a14 a15 a16 a8 a9 a10 a11 a0) fun y5 =>
 some (il (a0,y0.1,y5.1,a4,a5,a6,a7,a8,a9,a10,a11,a12,a13,a14,a15,a16,()))
 else
 bif a1==1 then
 some (il (a0,y0.1,a2,a4,a5,a6,a7,a8,a9,a10,a11,a12,a13,a14,a15,a16,()))
 else
 some (ir (a4,a5,a6,a7,a8,a9,a10,a11,a12,a13,a14,a15,a16,()))
 ) fun y1 =>
 el (fun y2=>match y2 with
 | (u2_0,u2_1,u2_2,u2_3,u2_4,u2_5,u2_6,u2_7,u2_8,u2_9,u2_10,u2_11,u2_12,u2_13,u2_14,u2_15,_) =>
 ob (f110 u2_0 u2_1 u2_2 u2_3 u2_4 u2_5 u2_6 u2_7 u2_8 u2_9 u2_10 u2_11 u2_12 u2_13 u2_14 u2_15) fun y4 =>
 some ((y4.1,y4.2.1,y4.2.2.1,y4.2.2.2.1,y4.2.2.2.2.1,y4.2.2.2.2.2.1,y4.2.2.2.2.2.2.1,y4.2.2.2.2.2.2.2.1,y4.2.2.2.2.2.2.2.2.1,y4.2.2.2.2.2.2.2.2.2.1,y4.2.2.2.2.2.2.2.2.2.2.1,y4.2.2.2.2.2.2.2.2.2.2.2.1,y4.2.2.2.2.2.2.2.2.2.2.2.2.1,()))
 ) (fun z3 =>
 some (z3)
 ) (y1)
 else
 none
def f56.S:ah:=⟨⟨[(0,pt 0),(1,n6),(2,.agg [i6,i6,.bool])],[(0,bx (.own 1) (.own 2) (.own 3)),(1,a8),(2,aE),(3,aI)]⟩,[⟨[],[(0,bx (.own 4) (.own 5) (.own 6)),(4,a8),(5,aE),(6,aI)]⟩],[0],fun(a,b,c,d,e,f,g,h,i,j,k,l,m,n,o,p,q,_)=>f56 a b c d e f g h i j k l m n o p q⟩
theorem f56.sound:SO 56 f56.S:=so [b f97.sound,b f22.sound,b f110.sound] n0 [(9,⟨[(0,pt 0),(1,n6),(6,n6),(7,n6)],[(0,bx (.own 4) (.own 5) (.own 6)),(4,a8),(5,aE),(6,aI)]⟩)] [] [] 4 (by kernel_rfl) fun _=>by kernel_rfl
def f231(a0:Int):Option (Int×Unit) :=
 ob (α:=T3⊕Int×Unit) (
 bif decide (a0≥4294967296) then
 some (il (Int.fdiv a0 (2 ^ Min.min 32 (IntKind.bits IntKind.u64)),32,()))
 else
 some (il (a0,0,()))
 ) fun y0 =>
 el (fun y1 =>
 ob (α:=T3⊕Int×Unit) (
 bif decide (y1.1≥65536) then
 some (il (Int.fdiv y1.1 (2 ^ Min.min 16 (IntKind.bits IntKind.u64)),wp .i64 (y1.2.1+16),()))
 else
 some (il (y1.1,y1.2.1,()))
 ) fun y3 =>
 el (fun y4 =>
 ob (α:=T3⊕Int×Unit) (
 bif decide (y4.1≥256) then
 some (il (Int.fdiv y4.1 (2 ^ Min.min 8 (IntKind.bits IntKind.u64)),wp .i64 (y4.2.1+8),()))
 else
 some (il (y4.1,y4.2.1,()))
 ) fun y6 =>
 el (fun y7 =>
 bif ae (wp .u8 y7.1) (ByteArray.size jz) then
 some ((wp .i64 (y7.2.1+wp .i64 (↑(UInt8.toNat (Array.getD jz.data (tn (wp .u8 y7.1)) 0)):Int)),()))
 else
 none
 ) (fun z8 =>
 some (z8)
 ) (y6)
 ) (fun z5 =>
 some (z5)
 ) (y3)
 ) (fun z2 =>
 some (z2)
 ) (y0)
def f231.S:ah:=⟨⟨[(0,.c (.int .u64))],[]⟩,[⟨[(0,n6)],[]⟩],[],fun x=>f231 x.1⟩
theorem f231.sound:SO 231 f231.S:=so [] n0 [(5,⟨[(0,.c (.int .u64)),(2,n6)],[]⟩),(8,⟨[(0,.c (.int .u64)),(2,n6)],[]⟩),(11,⟨[(0,.c (.int .u64)),(2,n6)],[]⟩)] [] [] 0 (by kernel_rfl) fun _=>by kernel_rfl
def f228(a0:Int):Option (Int×Unit) :=
 ob (f231 a0) fun y0 =>
 some ((y0.1,()))
def f228.S:ah:=⟨⟨[(0,.c (.int .u64))],[]⟩,[⟨[(0,n6)],[]⟩],[],fun x=>f228 x.1⟩
theorem f228.sound:SO 228 f228.S:=so [b f231.sound] n0 [] [] [] 0 (by kernel_rfl) fun _=>by kernel_rfl
def f225.L1(x:Int×T3):Option (Int×Unit) :=
 it (X:=Int×T3) (fun rec x =>
 bif decide (x.2.2.1>0) then
 bif decide (wp .i64 (x.2.1+x.2.2.1)=0) then
 none
 else
 bif decide (wp .i64 (x.2.1+x.2.2.1)≤wp .i64 (Int.tdiv x.1 (wp .i64 (x.2.1+x.2.2.1)))) then
 rec (x.1,wp .i64 (x.2.1+x.2.2.1),Int.fdiv x.2.2.1 (2 ^ Min.min 1 (IntKind.bits IntKind.i64)),())
 else
 rec (x.1,x.2.1,Int.fdiv x.2.2.1 (2 ^ Min.min 1 (IntKind.bits IntKind.i64)),())
 else
 some ((x.2.1,()))
 ) (100000000000000000000) (x)
def f225(a0:Int):Option (Int×Unit) :=
 bif decide (a0<1) then
 some ((0,()))
 else
 ob (f228 (wp .u64 a0)) fun y0 =>
 bif decide (wp .i64 (Int.tdiv y0.1 2)<0) then
 none
 else
 f225.L1 ((a0,0,wp .i64 (1*2 ^ Min.min (tn (wp .i64 (Int.tdiv y0.1 2))) (IntKind.bits IntKind.i64)),()))
def f225.S:ah:=⟨⟨[(0,n6)],[]⟩,[⟨[(0,n6)],[]⟩],[],fun x=>f225 x.1⟩
theorem f225.sound:SO 225 f225.S:=so [b f228.sound] n0 [] [(6,⟨[(0,n6),(3,n6),(4,n6)],[]⟩)] [] 0 (by kernel_rfl) fun _=>by kernel_rfl
def f223(a0 a1:Int):Option (Int×Unit) :=
 ob (f225 (wp .i64 (65536*wp .i64 (wp .i64 (a0*a0)+wp .i64 (a1*a1))))) fun y0 =>
 some ((y0.1,()))
def f223.S:ah:=⟨⟨[(0,n6),(1,n6)],[]⟩,[⟨[(0,n6)],[]⟩],[],fun x=>f223 x.1 x.2.1⟩
theorem f223.sound:SO 223 f223.S:=so [b f225.sound] n0 [] [] [] 0 (by kernel_rfl) fun _=>by kernel_rfl
def f229(a0 a1:Int):Option (Int×Unit) :=
 bif decide (wp .i64 (2*a1)=0) then
 none
 else
 ob (α:=Int×Unit⊕Int×Unit) (
 bif decide (wp .i64 (2*a1)=0) then
 none
 else
 bif decide (Int.tmod (wp .i64 (wp .i64 (2*a0)+a1)) (wp .i64 (2*a1))<0) then
 some (il (wp .i64 (wp .i64 (Int.tdiv (wp .i64 (wp .i64 (2*a0)+a1)) (wp .i64 (2*a1)))-1),()))
 else
 some (il (wp .i64 (Int.tdiv (wp .i64 (wp .i64 (2*a0)+a1)) (wp .i64 (2*a1))),()))
 ) fun y0 =>
 el (fun y1 =>
 some ((y1.1,()))
 ) (fun z2 =>
 some (z2)
 ) (y0)
def f229.S:ah:=⟨⟨[(0,n6),(1,n6)],[]⟩,[⟨[(0,n6)],[]⟩],[],fun x=>f229 x.1 x.2.1⟩
theorem f229.sound:SO 229 f229.S:=so [] n0 [(5,⟨[(5,n6)],[]⟩)] [] [] 0 (by kernel_rfl) fun _=>by kernel_rfl
def f226.L1(x:Int×Int×oK):Option (LZ×Unit) :=
 it (X:=Int×Int×oK) (fun rec x=>match x with
 | (v0,v1,v2,v3,v4,v5,v6,_) =>
 bif decide (v5≤v4) then
 ob (f229 (wp .i64 (v5*wp .i64 (v2-v0))) v4) fun y0 =>
 ob (f229 (wp .i64 (v5*wp .i64 (v3-v1))) v4) fun y1 =>
 ob (f77 (wp .i64 (v0+y0.1)) (wp .i64 (v1+y1.1))) fun y2 =>
 bif decide (ln v6+1≤aB 8) then
 rec (v0,v1,v2,v3,v4,wp .i64 (v5+1),v6++[y2.1],())
 else
 none
 else
 some ((v6,()))
 ) (100000000000000000000) (x)
def f226(a0 a1 a2 a3:Int):Option (LZ×Unit) :=
 ob (f77 a0 a1) fun y0 =>
 bif decide (y0.1<0) then
 some (([],()))
 else
 ob (f77 a2 a3) fun y1 =>
 bif decide (y1.1<0) then
 some (([],()))
 else
 ob (f77 a0 a1) fun y2 =>
 f226.L1 ((a0,a1,a2,a3,cz (cz (cz (wp .i64 (a2-a0)) (wp .i64 (a0-a2))) (wp .i64 (a3-a1))) (wp .i64 (a1-a3)),1,[y2.1],()))
def f226.S:ah:=⟨⟨[(0,n6),(1,n6),(2,n6),(3,n6)],[]⟩,[⟨[(0,ow 0)],[(0,.arr (.int .i64))]⟩],[],fun(a,b,c,d,_)=>f226 a b c d⟩
theorem f226.sound:SO 226 f226.S:=so [b f77.sound,b f229.sound] n0 [] [(7,⟨[(0,n6),(1,n6),(2,n6),(3,n6),(9,n6),(10,ow 0),(11,n6)],[(0,.arr (.int .i64))]⟩)] [] 0 (by kernel_rfl) fun _=>by kernel_rfl
def f227(a0:Int):Option (Bool×Unit) :=
 ob (f15 a0) fun y0 =>
 bif y0.1 then
 some ((a0 !=2,()))
 else
 some ((false,()))
def f227.S:ah:=⟨⟨[(0,n6)],[]⟩,[⟨[(0,nb)],[]⟩],[],fun x=>f227 x.1⟩
theorem f227.sound:SO 227 f227.S:=so [b f15.sound] n0 [] [] [] 0 (by kernel_rfl) fun _=>by kernel_rfl
def f224.L1(x:zg):Option (Bool×Unit) :=
 it (X:=zg) (fun rec x =>
 bif decide (x.2.1<wp .i64 ((↑(ln x.2.2.1):Int)-1)) then
 bif ae x.2.1 (ln x.2.2.1) then
 ob (f41 x.1 (gd x.2.2.1 (tn x.2.1) 0)) fun y0 =>
 ob (f227 y0.1) fun y1 =>
 bif !y1.1 then
 some ((false,()))
 else
 rec (x.1,wp .i64 (x.2.1+1),x.2.2.1,())
 else
 none
 else
 some ((decide ((↑(ln x.2.2.1):Int)>0),()))
 ) (100000000000000000000) (x)
def f224(a0:LZ)(a1 a2 a3 a4:Int):Option (Bool×Unit) :=
 ob (f226 a1 a2 a3 a4) fun y0 =>
 f224.L1 ((a0,1,y0.1,()))
def f224.S:ah:=⟨⟨[(0,r8),(1,n6),(2,n6),(3,n6),(4,n6)],[]⟩,[⟨[(0,nb)],[]⟩],[],fun(a,b,c,d,e,_)=>f224 a b c d e⟩
theorem f224.sound:SO 224 f224.S:=so [b f41.sound,b f226.sound,b f227.sound] n0 [] [(4,⟨[(0,r8),(11,ow 0),(12,n6)],[(0,.arr (.int .i64))]⟩)] [] 0 (by kernel_rfl) fun _=>by kernel_rfl
def f221.L1(x:Int×xG):Option (Int×Unit) :=
 it (X:=Int×xG) (fun rec x=>match x with
 | (v0,v1,v2,v3,v4,v5,v6,v7,v8,v9,v10,v11,v12,v13,v14,v15,v16,v17,v18,v19,v20,v21,v22,v23,v24,_) =>
 bif decide (v2<4) then
 ob (f97 v8 v2) fun y0 =>
 bif decide (y0.1<0) then
 rec (v0,v1,wp .i64 (v2+1),v3,v4,v5,v6,v7,v8,v9,v10,v11,v12,v13,v14,v15,v16,v17,v18,v19,v20,v21,v22,v23,v24,())
 else
 bif ae y0.1 (ln v8) then
 ob (f223 (wp .i64 ((gd v8 (tn y0.1) zE).2.2.2.1-v17)) (wp .i64 ((gd v8 (tn y0.1) zE).2.2.2.2.1-v18))) fun y1 =>
 bif decide (y1.1≤1536) then
 bif decide (v0<0) then
 ob (f224 v7 v17 v18 (gd v8 (tn y0.1) zE).2.2.2.1 (gd v8 (tn y0.1) zE).2.2.2.2.1) fun y2 =>
 bif y2.1 then
 rec (y0.1,y1.1,wp .i64 (v2+1),v3,v4,v5,v6,v7,v8,v9,v10,v11,v12,v13,v14,v15,v16,v17,v18,v19,v20,v21,v22,v23,v24,())
 else
 rec (v0,v1,wp .i64 (v2+1),v3,v4,v5,v6,v7,v8,v9,v10,v11,v12,v13,v14,v15,v16,v17,v18,v19,v20,v21,v22,v23,v24,())
 else
 bif decide (y1.1<v1) then
 ob (f224 v7 v17 v18 (gd v8 (tn y0.1) zE).2.2.2.1 (gd v8 (tn y0.1) zE).2.2.2.2.1) fun y3 =>
 bif y3.1 then
 rec (y0.1,y1.1,wp .i64 (v2+1),v3,v4,v5,v6,v7,v8,v9,v10,v11,v12,v13,v14,v15,v16,v17,v18,v19,v20,v21,v22,v23,v24,())
 else
 rec (v0,v1,wp .i64 (v2+1),v3,v4,v5,v6,v7,v8,v9,v10,v11,v12,v13,v14,v15,v16,v17,v18,v19,v20,v21,v22,v23,v24,())
 else
 rec (v0,v1,wp .i64 (v2+1),v3,v4,v5,v6,v7,v8,v9,v10,v11,v12,v13,v14,v15,v16,v17,v18,v19,v20,v21,v22,v23,v24,())
 else
 rec (v0,v1,wp .i64 (v2+1),v3,v4,v5,v6,v7,v8,v9,v10,v11,v12,v13,v14,v15,v16,v17,v18,v19,v20,v21,v22,v23,v24,())
 else
 none
 else
 some ((v0,()))
 ) (100000000000000000000) (x)
def f221(a0 a1 a2 a3:Int)(a4:LZ)(a5:LE)(a6:LI)(a7 a8 a9 a10 a11 a12 a13 a14 a15 a16 a17 a18 a19 a20 a21:Int):Option (Int×Unit) :=
 f221.L1 ((-1,0,0,a0,a1,a2,a3,a4,a5,a6,a7,a8,a9,a10,a11,a12,a13,a14,a15,a16,a17,a18,a19,a20,a21,()))
def f221.S:ah:=⟨⟨[(0,wS),(1,eS)],[]⟩,[⟨[(0,n6)],[]⟩],[],fun(a,b,c,d,e,f,g,h,i,j,k,l,m,n,o,p,q,r,s,t,u,v,_)=>f221 a b c d e f g h i j k l m n o p q r s t u v⟩
theorem f221.sound:SO 221 f221.S:=so [b f97.sound,b f223.sound,b f224.sound] n0 [] [(4,⟨[(2,pt 0),(3,pt 1),(5,n6),(6,n6),(11,n6)],[(0,bw q8 qE qI),(1,bz)]⟩)] [] 0 (by kernel_rfl) fun _=>by kernel_rfl
def f222.L1(x:Int×fR):Option (Int×Unit) :=
 it (X:=Int×fR) (fun rec x =>
 bif decide (x.2.2.2.2.1≤4) then
 ob (f78 x.2.2.2.2.1) fun y0 =>
 bif wp .i64 (x.2.2.1-x.1)==y0.1 then
 bif wp .i64 (x.2.2.2.1-x.2.1)==y0.2.1 then
 some ((x.2.2.2.2.1,()))
 else
 rec (x.1,x.2.1,x.2.2.1,x.2.2.2.1,wp .i64 (x.2.2.2.2.1+1),())
 else
 rec (x.1,x.2.1,x.2.2.1,x.2.2.2.1,wp .i64 (x.2.2.2.2.1+1),())
 else
 some ((0,()))
 ) (100000000000000000000) (x)
def f222(a0 a1 a2 a3:Int):Option (Int×Unit) :=
 f222.L1 ((a0,a1,a2,a3,1,()))
def f222.S:ah:=⟨⟨[(0,n6),(1,n6),(2,n6),(3,n6)],[]⟩,[⟨[(0,n6)],[]⟩],[],fun(a,b,c,d,_)=>f222 a b c d⟩
theorem f222.sound:SO 222 f222.S:=so [b f78.sound] n0 [] [(3,⟨[(0,n6),(1,n6),(2,n6),(3,n6),(9,n6)],[]⟩)] [] 0 (by kernel_rfl) fun _=>by kernel_rfl
def f220(a0 a1 a2 a3 a4:Int)(a5:LZ)(a6:LE)(a7:LI)(a8 a9 a10 a11:Int):Option (Int×Unit) :=
 bif decide (a0<0) then
 some ((0,()))
 else
 bif decide (a0≥aX (↑(ln a6):Int) 32) then
 some ((0,()))
 else
 bif ae a0 (ln a6) then
 bif (gd a6 (tn a0) zE).1==0 then
 some ((0,()))
 else
 bif (gd a6 (tn a0) zE).1==1 then
 some ((0,()))
 else
 ob (f221 a1 a2 a3 a4 a5 a6 a7 a8 a9 a10 a11 (gd a6 (tn a0) zE).1 (gd a6 (tn a0) zE).2.1 (gd a6 (tn a0) zE).2.2.1 (gd a6 (tn a0) zE).2.2.2.1 (gd a6 (tn a0) zE).2.2.2.2.1 (gd a6 (tn a0) zE).2.2.2.2.2.1 (gd a6 (tn a0) zE).2.2.2.2.2.2.1 (gd a6 (tn a0) zE).2.2.2.2.2.2.2.1 (gd a6 (tn a0) zE).2.2.2.2.2.2.2.2.1 (gd a6 (tn a0) zE).2.2.2.2.2.2.2.2.2.1 (gd a6 (tn a0) zE).2.2.2.2.2.2.2.2.2.2) fun y0 =>
 bif decide (y0.1≥0) then
 bif ae y0.1 (ln a6) then
 ob (f222 (gd a6 (tn a0) zE).2.2.2.1 (gd a6 (tn a0) zE).2.2.2.2.1 (gd a6 (tn y0.1) zE).2.2.2.1 (gd a6 (tn y0.1) zE).2.2.2.2.1) fun y1 =>
 bif y1.1 !=0 then
 some ((y1.1,()))
 else
 ob (f16 a5 a6 (gd a6 (tn a0) zE).2.2.2.1 (gd a6 (tn a0) zE).2.2.2.2.1 [wp .i64 (wp .i64 ((gd a6 (tn y0.1) zE).2.2.2.2.1*24)+(gd a6 (tn y0.1) zE).2.2.2.1)]) fun y2 =>
 some ((y2.1,()))
 else
 none
 else
 ob (f71 8 a1 [a2,a0,90]) fun y3 =>
 bif decide (y3.1<1) then
 some ((0,()))
 else
 bif decide (y3.1>4) then
 some ((0,()))
 else
 ob (f214 (gd a6 (tn a0) zE).1 (gd a6 (tn a0) zE).2.1 (gd a6 (tn a0) zE).2.2.1 (gd a6 (tn a0) zE).2.2.2.1 (gd a6 (tn a0) zE).2.2.2.2.1 (gd a6 (tn a0) zE).2.2.2.2.2.1 (gd a6 (tn a0) zE).2.2.2.2.2.2.1 (gd a6 (tn a0) zE).2.2.2.2.2.2.2.1 (gd a6 (tn a0) zE).2.2.2.2.2.2.2.2.1 (gd a6 (tn a0) zE).2.2.2.2.2.2.2.2.2.1 (gd a6 (tn a0) zE).2.2.2.2.2.2.2.2.2.2 y3.1) fun y4 =>
 ob (f95 a5 y4.1 y4.2.1) fun y5 =>
 ob (f15 y5.1) fun y6 =>
 bif !y6.1 then
 some ((0,()))
 else
 ob (f96 a6 y4.1 y4.2.1) fun y7 =>
 bif decide (y7.1≥0) then
 some ((0,()))
 else
 some ((y3.1,()))
 else
 none
def f220.S:ah:=⟨⟨[(0,.agg [i6]),(1,wS)],[]⟩,[⟨[(0,n6)],[]⟩],[],fun(a,b,c,d,e,f,g,h,i,j,k,l,_)=>f220 a b c d e f g h i j k l⟩
theorem f220.sound:SO 220 f220.S:=so [b f71.sound,b f15.sound,b f96.sound,b f214.sound,b f95.sound,b f16.sound,b f221.sound,b f222.sound] n0 [] [] [] 0 (by kernel_rfl) fun _=>by kernel_rfl
def f111(a0 a1 a2 a3:Int)(a4:LZ)(a5:LE)(a6:LI)(a7 a8 a9 a10 a11:Int):Option (Int×Unit):=f220 a11 a0 a1 a2 a3 a4 a5 a6 a7 a8 a9 a10
def f111.S:ah:=⟨rU,c6,[],fun x=>f111 x.1 x.2.1 x.2.2.1 x.2.2.2.1 x.2.2.2.2.1 x.2.2.2.2.2.1 x.2.2.2.2.2.2.1 x.2.2.2.2.2.2.2.1 x.2.2.2.2.2.2.2.2.1 x.2.2.2.2.2.2.2.2.2.1 x.2.2.2.2.2.2.2.2.2.2.1 x.2.2.2.2.2.2.2.2.2.2.2.1⟩
def f111.E:Env:=⟨bQ,[],[],[],[],[],0,[],1⟩
theorem f111.ask : pc f111.E ((Go.Proofs.Tryz.f61.body).getD .skip) "adit/minds.wants" 43 := by constructor <;> first | kernel_rfl | (unfold fb; kernel_rfl) | (intros; kernel_rfl)
theorem f111.parts:nA f111.E ((Go.Proofs.Tryz.f111.body).getD .skip) 198 61 43 158:=by constructor<;>first | kernel_rfl | (unfold fb;kernel_rfl) | (intros;kernel_rfl)
theorem f111.sound : Sound Go.Proofs.Tryz.prog 111 f111.S := qJ (fn := Go.Proofs.Tryz.f111) (E := f111.E) (c := ((Go.Proofs.Tryz.f111.body).getD .skip)) (tS := 198) (fa := 61) (tW := 43) (tF := 158) (by kernel_rfl) (by kernel_rfl) (by kernel_rfl) (by kernel_rfl) (by kernel_rfl) f111.parts ⟨fx, bK.nil _, FnsOk.nil⟩ rfl (by intros; kernel_rfl) (F := (fun n x => f220 n x.1 x.2.1 x.2.2.1 x.2.2.2.1 x.2.2.2.2.1 x.2.2.2.2.2.1 x.2.2.2.2.2.2.1 x.2.2.2.2.2.2.2.1 x.2.2.2.2.2.2.2.2.1 x.2.2.2.2.2.2.2.2.2.1 x.2.2.2.2.2.2.2.2.2.2.1)) (fun h _ _ _ hV hro => sv (fn := Go.Proofs.Tryz.f61) (E := f111.E) (c := ((Go.Proofs.Tryz.f61.body).getD .skip)) (name := "adit/minds.wants") (tW := 43) (tS := 198) (fw := 220) (by kernel_rfl) (by kernel_rfl) (by kernel_rfl) (by kernel_rfl) (by kernel_rfl) f111.ask ⟨fx, bK.nil _, FnsOk.nil⟩ rfl (by intros; kernel_rfl) (F := (fun n x => f220 n x.1 x.2.1 x.2.2.1 x.2.2.2.1 x.2.2.2.2.1 x.2.2.2.2.2.1 x.2.2.2.2.2.2.1 x.2.2.2.2.2.2.2.1 x.2.2.2.2.2.2.2.2.1 x.2.2.2.2.2.2.2.2.2.1 x.2.2.2.2.2.2.2.2.2.2.1)) f220.sound h hV hro)
def f57.L1(x:Int×Int×T2):Option (T2) :=
 it (X:=Int×Int×T2) (fun rec x=>match x with
 | (v0,v1,v2,v3,v4,v5,v6,v7,v8,v9,v10,v11,v12,v13,v14,_) =>
 bif decide (v1<v0) then
 bif ae v1 (ln v13) then
 bif (gd v13 (tn v1) zE).1==0 then
 rec (v0,wp .i64 (v1+1),v2,v3,v4,v5,v6,v7,v8,v9,v10,v11,v12,v13,v14,())
 else
 bif (gd v13 (tn v1) zE).1==1 then
 rec (v0,wp .i64 (v1+1),v2,v3,v4,v5,v6,v7,v8,v9,v10,v11,v12,v13,v14,())
 else
 bif decide ((gd v13 (tn v1) zE).2.2.2.2.2.2.2.2.2.2>0) then
 rec (v0,wp .i64 (v1+1),v2,v3,v4,v5,v6,v7,v8,v9,v10,v11,v12,v13,v14,())
 else
 ob (f111 v2 v3 v4 v5 v12 v13 v14 v6 v7 v8 v9 v1) fun y0 =>
 bif decide (y0.1≥1) then
 bif decide (y0.1≤4) then
 ob (f112 v1 y0.1 v2 v3 v4 v5 v6 v7 v8 v9 v10 v11 v12 v13 v14) fun y1 =>
 rec (v0,wp .i64 (v1+1),y1.1,y1.2.1,y1.2.2.1,y1.2.2.2.1,y1.2.2.2.2.1,y1.2.2.2.2.2.1,y1.2.2.2.2.2.2.1,y1.2.2.2.2.2.2.2.1,y1.2.2.2.2.2.2.2.2.1,y1.2.2.2.2.2.2.2.2.2.1,y1.2.2.2.2.2.2.2.2.2.2.1,y1.2.2.2.2.2.2.2.2.2.2.2.1,y1.2.2.2.2.2.2.2.2.2.2.2.2.1,())
 else
 rec (v0,wp .i64 (v1+1),v2,v3,v4,v5,v6,v7,v8,v9,v10,v11,v12,v13,v14,())
 else
 rec (v0,wp .i64 (v1+1),v2,v3,v4,v5,v6,v7,v8,v9,v10,v11,v12,v13,v14,())
 else
 none
 else
 some ((v2,v3,v4,v5,v6,v7,v8,v9,v10,v11,v12,v13,v14,()))
 ) (100000000000000000000) (x)
def f57(a0 a1 a2 a3 a4 a5 a6 a7:Int)(a8 a9:Bool)(a10:LZ)(a11:LE)(a12:LI):Option (T2) :=
 f57.L1 ((aX (↑(ln a11):Int) 32,0,a0,a1,a2,a3,a4,a5,a6,a7,a8,a9,a10,a11,a12,()))
def f57.S:ah:=⟨⟨[(0,pt 0)],[(0,bx (.own 1) (.own 2) (.own 3)),(1,a8),(2,aE),(3,aI)]⟩,[⟨[],[(0,bx (.own 4) (.own 5) (.own 6)),(4,a8),(5,aE),(6,aI)]⟩],[0],fun(a,b,c,d,e,f,g,h,i,j,k,l,m,_)=>f57 a b c d e f g h i j k l m⟩
theorem f57.sound:SO 57 f57.S:=so [b f112.sound,b f111.sound] n0 [] [(2,⟨[(0,pt 0),(11,n6),(12,n6)],[(0,bx (.own 4) (.own 5) (.own 6)),(4,a8),(5,aE),(6,aI)]⟩)] [] 4 (by kernel_rfl) fun _=>by kernel_rfl
end
end Go.Proofs.YthdgahpomhnidaaGreat.Run
namespace Go.Proofs.YthdgahpomhnidaaGreat.Run
open Go Mx
set_option maxRecDepth 100000
set_option maxHeartbeats 4000000
open List renaming getD→gd,length→ln,set→ls,replicate→rp
open Int renaming toNat→tn
open Option renaming bind→ob
open Go.IntKind renaming wrap→wp
open Sum renaming inl→il,inr→ir,elim→el
noncomputable section
def f58.L1(x:wI):Option (T0) :=
 it (X:=wI) (fun rec x=>match x with
 | (v0,v1,v2,v3,v4,v5,v6,v7,v8,v9,v10,v11,v12,v13,v14,v15,v16,v17,v18,v19,v20,_) =>
 bif decide (v1<v0) then
 ob (f114 v2 v3 v4 v5 v18 v19 v20 v6 v7 v8 v9 v1) fun y0 =>
 bif !y0.1 then
 rec (v0,wp .i64 (v1+1),v2,v3,v4,v5,v6,v7,v8,v9,v10,v11,v12,v13,v14,v15,v16,v17,v18,v19,v20,())
 else
 bif ae v1 (ln v19) then
 ob (α:=Int×Nat×Int×Int×Hq⊕T0) (
 bif decide ((gd v19 (tn v1) zE).2.2.2.2.2.2.2.2.2.2>0) then
 let s0:LE:=ls v19 (tn v1) ((gd v19 (tn v1) zE).1,(gd v19 (tn v1) zE).2.1,(gd v19 (tn v1) zE).2.2.1,(gd v19 (tn v1) zE).2.2.2.1,(gd v19 (tn v1) zE).2.2.2.2.1,(gd v19 (tn v1) zE).2.2.2.2.2.1,(gd v19 (tn v1) zE).2.2.2.2.2.2.1,(gd v19 (tn v1) zE).2.2.2.2.2.2.2.1,(gd v19 (tn v1) zE).2.2.2.2.2.2.2.2.1,(gd v19 (tn v1) zE).2.2.2.2.2.2.2.2.2.1,wp .i64 ((gd v19 (tn v1) zE).2.2.2.2.2.2.2.2.2.2-1))
 some (il (v1,tn v1,v0,v1,v2,v3,v4,v5,v6,v7,v8,v9,v10,v11,v12,v13,v14,v15,v16,v17,s0,v18,v20,()))
 else
 some (il (v1,tn v1,v0,v1,v2,v3,v4,v5,v6,v7,v8,v9,v10,v11,v12,v13,v14,v15,v16,v17,v19,v18,v20,()))
 ) fun y1 =>
 el (fun y2=>match y2 with
 | (u2_0,u2_1,u2_2,u2_3,u2_4,u2_5,u2_6,u2_7,u2_8,u2_9,u2_10,u2_11,u2_12,u2_13,u2_14,u2_15,u2_16,u2_17,u2_18,u2_19,u2_20,u2_21,u2_22,_) =>
 bif decide ((gd u2_20 u2_1 zE).2.2.2.2.2.2.2.2.2.1>0) then
 let s0:LE:=ls u2_20 u2_1 ((gd u2_20 u2_1 zE).1,(gd u2_20 u2_1 zE).2.1,(gd u2_20 u2_1 zE).2.2.1,(gd u2_20 u2_1 zE).2.2.2.1,(gd u2_20 u2_1 zE).2.2.2.2.1,(gd u2_20 u2_1 zE).2.2.2.2.2.1,(gd u2_20 u2_1 zE).2.2.2.2.2.2.1,(gd u2_20 u2_1 zE).2.2.2.2.2.2.2.1,(gd u2_20 u2_1 zE).2.2.2.2.2.2.2.2.1,wp .i64 ((gd u2_20 u2_1 zE).2.2.2.2.2.2.2.2.2.1-1),(gd u2_20 u2_1 zE).2.2.2.2.2.2.2.2.2.2)
 ob (f115 u2_4 u2_5 u2_6 u2_7 u2_21 s0 u2_22 u2_8 u2_9 u2_10 u2_11 u2_0 1) fun y3 =>
 rec (u2_2,wp .i64 (u2_3+1),y3.1,y3.2.1,y3.2.2.1,y3.2.2.2.1,y3.2.2.2.2.1,y3.2.2.2.2.2.1,y3.2.2.2.2.2.2.1,y3.2.2.2.2.2.2.2.1,u2_12,u2_13,u2_14,u2_15,u2_16,u2_17,u2_18,u2_19,y3.2.2.2.2.2.2.2.2.1,y3.2.2.2.2.2.2.2.2.2.1,y3.2.2.2.2.2.2.2.2.2.2.1,())
 else
 rec (u2_2,wp .i64 (u2_3+1),u2_4,u2_5,u2_6,u2_7,u2_8,u2_9,u2_10,u2_11,u2_12,u2_13,u2_14,u2_15,u2_16,u2_17,u2_18,u2_19,u2_21,u2_20,u2_22,())
 ) (fun z4 =>
 some (z4)
 ) (y1)
 else
 none
 else
 some ((v2,v3,v4,v5,v6,v7,v8,v9,v18,v19,v20,()))
 ) (100000000000000000000) (x)
def f58(a0 a1 a2 a3:Int)(a4:LZ)(a5:LE)(a6:LI)(a7 a8 a9 a10:Int):Option (T0) :=
 ob (f113 a0 a1 a2 a3 a4 a5 a6 a7 a8 a9 a10) fun y0 =>
 bif decide ((0:Int)≤0∧0≤aX (↑(ln y0.2.2.2.2.2.2.2.2.2.1):Int) 32∧aX (↑(ln y0.2.2.2.2.2.2.2.2.2.1):Int) 32≤(↑(ln y0.2.2.2.2.2.2.2.2.2.1):Int)) then
 f58.L1 (((↑(tn (aX (↑(ln y0.2.2.2.2.2.2.2.2.2.1):Int) 32)-0):Int),0,y0.1,y0.2.1,y0.2.2.1,y0.2.2.2.1,y0.2.2.2.2.1,y0.2.2.2.2.2.1,y0.2.2.2.2.2.2.1,y0.2.2.2.2.2.2.2.1,0,0,0,0,0,0,0,0,y0.2.2.2.2.2.2.2.2.1,y0.2.2.2.2.2.2.2.2.2.1,y0.2.2.2.2.2.2.2.2.2.2.1,()))
 else
 none
def f58.S:ah:=⟨⟨[(0,wS)],[]⟩,[⟨[(0,aw (.own 0) (.own 1) (.own 2))],[(0,a8),(1,aE),(2,aI)]⟩],[],fun(a,b,c,d,e,f,g,h,i,j,k,_)=>f58 a b c d e f g h i j k⟩
theorem f58.sound:SO 58 f58.S:=so [b f114.sound,b f113.sound,b f115.sound] n0 [(10,⟨[(1,pt 0),(2,pt 1),(3,n6),(4,.c (.eptr 2 0)),(14,n6),(15,n6)],[(0,bw (.own 3) (.own 2) (.own 4)),(1,bw .nils .nils .nils),(2,aE),(3,a8),(4,aI)]⟩)] [(4,⟨[(1,pt 0),(2,pt 1),(14,n6),(15,n6)],[(0,bw (.own 2) (.own 3) (.own 4)),(1,bw .nils .nils .nils),(2,a8),(3,aE),(4,aI)]⟩)] [] 0 (by kernel_rfl) fun _=>by kernel_rfl
def f59(a0 a1 a2 a3 a4 a5 a6 a7:Int)(a8 a9:Bool)(a10:LZ)(a11:LE)(a12:LI):Option (Gj) :=
 ob (f108 ((a0,a1,a2,a3,a10,a11,a12,a4,a5,a6,a7),a8,a9)) fun y0 =>
 bif Int.tmod a1 16 !=0 then
 some ((a0,a1,a2,a3,a4,a5,a6,a7,a8,a9,a10,a12,a11,()))
 else
 bif !y0.2.2.1 then
 some ((a0,a1,a2,a3,a4,a5,a6,a7,a8,a9,a10,a12,a11,()))
 else
 ob (f96 a11 y0.1 y0.2.1) fun y1 =>
 bif decide (y1.1≥0) then
 some ((a0,a1,a2,a3,a4,a5,a6,a7,a8,a9,a10,a12,a11,()))
 else
 ob (f75 2) fun y2 =>
 ob (f101 y2.1 y2.2.1 y2.2.2.1 y0.1 y0.2.1 y2.2.2.2.2.2.1 y2.2.2.2.2.2.2.1 y2.2.2.2.2.2.2.2.1 y2.2.2.2.2.2.2.2.2.1 y2.2.2.2.2.2.2.2.2.2.1 y2.2.2.2.2.2.2.2.2.2.2.1 a0 a1 a2 a3 a4 a5 a6 a7 a8 a9 a10 a11 a12) fun y3 =>
 some ((y3.1,y3.2.1,y3.2.2.1,y3.2.2.2.1,y3.2.2.2.2.1,y3.2.2.2.2.2.1,y3.2.2.2.2.2.2.1,y3.2.2.2.2.2.2.2.1,y3.2.2.2.2.2.2.2.2.1,y3.2.2.2.2.2.2.2.2.2.1,y3.2.2.2.2.2.2.2.2.2.2.1,y3.2.2.2.2.2.2.2.2.2.2.2.1,y3.2.2.2.2.2.2.2.2.2.2.2.2.1,()))
def f59.S:ah:=⟨⟨[(0,pt 0)],[(0,bx (.own 1) (.own 2) (.own 3)),(1,a8),(2,aE),(3,aI)]⟩,[⟨[],[(0,bx (.own 1) (.own 4) (.own 3)),(1,a8),(3,aI),(4,aE)]⟩],[0,1,3],fun(a,b,c,d,e,f,g,h,i,j,k,l,m,_)=>f59 a b c d e f g h i j k l m⟩
theorem f59.sound:SO 59 f59.S:=so [b f75.sound,b f108.sound,b f96.sound,b f101.sound] n0 [] [] [] 4 (by kernel_rfl) fun _=>by kernel_rfl
def f52_1.L1(x:Ha):Option (Hl) :=
 it (X:=Ha) (fun rec x=>match x with
 | (v0,v1,v2,v3,v4,v5,v6,v7,v8,v9,v10,v11,v12,v13,v14,v15,v16,v17,_) =>
 bif decide (v1<v0) then
 bif ae v1 (ln v14) then
 ob (f96 v16 (gd v14 (tn v1) zE).2.2.2.1 (gd v14 (tn v1) zE).2.2.2.2.1) fun y0 =>
 bif decide (y0.1<0) then
 ob (f101 (gd v14 (tn v1) zE).1 (gd v14 (tn v1) zE).2.1 (gd v14 (tn v1) zE).2.2.1 (gd v14 (tn v1) zE).2.2.2.1 (gd v14 (tn v1) zE).2.2.2.2.1 (gd v14 (tn v1) zE).2.2.2.2.2.1 (gd v14 (tn v1) zE).2.2.2.2.2.2.1 (gd v14 (tn v1) zE).2.2.2.2.2.2.2.1 (gd v14 (tn v1) zE).2.2.2.2.2.2.2.2.1 (gd v14 (tn v1) zE).2.2.2.2.2.2.2.2.2.1 (gd v14 (tn v1) zE).2.2.2.2.2.2.2.2.2.2 v2 v3 v4 v5 v6 v7 v8 v9 v10 v11 v15 v16 v13) fun y1 =>
 rec (v0,wp .i64 (v1+1),y1.1,y1.2.1,y1.2.2.1,y1.2.2.2.1,y1.2.2.2.2.1,y1.2.2.2.2.2.1,y1.2.2.2.2.2.2.1,y1.2.2.2.2.2.2.2.1,y1.2.2.2.2.2.2.2.2.1,y1.2.2.2.2.2.2.2.2.2.1,v12,y1.2.2.2.2.2.2.2.2.2.2.2.1,v14,y1.2.2.2.2.2.2.2.2.2.2.1,y1.2.2.2.2.2.2.2.2.2.2.2.2.1,v17,())
 else
 rec (v0,wp .i64 (v1+1),v2,v3,v4,v5,v6,v7,v8,v9,v10,v11,v12,v13,v14,v15,v16,v17,())
 else
 none
 else
 ob (f102 v13 v17) fun y2 =>
 some ((v2,v3,v4,v5,v6,v7,v8,v9,v10,v11,v12,v13,v15,v16,y2.1,()))
 ) (100000000000000000000) (x)
def f52_1(a0 a1 a2 a3 a4 a5 a6 a7:Int)(a8 a9:Bool)(a10:LZ)(a11:LE)(a12:LI):Option (Hl) :=
 ob (f11 a0 a2) fun y0 =>
 ob (f100 a0 a1 a2 a3 a4 a5 a6 a7 a8 a9 y0.2.1 a11 a12) fun y1 =>
 f52_1.L1 (((↑(ln y0.2.2.1):Int),0,y1.1,y1.2.1,y1.2.2.1,y1.2.2.2.1,y1.2.2.2.2.1,y1.2.2.2.2.2.1,y1.2.2.2.2.2.2.1,y1.2.2.2.2.2.2.2.1,y1.2.2.2.2.2.2.2.2.1,y1.2.2.2.2.2.2.2.2.2.1,a10,y1.2.2.2.2.2.2.2.2.2.2.2.2.1,y0.2.2.1,y1.2.2.2.2.2.2.2.2.2.2.1,y1.2.2.2.2.2.2.2.2.2.2.2.1,y0.2.2.2.1,()))
def f52_1.S:ah:=⟨⟨[(0,pt 0)],[(0,bx (.own 1) (.own 2) (.own 3)),(1,a8),(2,aE),(3,aI)]⟩,[⟨[],[(0,bx (.own 4) (.own 5) (.own 6)),(1,a8),(3,aI),(4,a8),(5,aE),(6,aI)]⟩],[0,1,3],fun(a,b,c,d,e,f,g,h,i,j,k,l,m,_)=>f52_1 a b c d e f g h i j k l m⟩
theorem f52_1.sound:SO 52 f52_1.S:=so [b f11.sound,b f96.sound,b f100.sound,b f101.sound,b f102.sound] n0 [] [(5,⟨[(0,pt 0),(2,pt 4),(29,ow 5),(30,n6),(31,n6)],[(0,bx (.own 6) (.own 7) (.own 3)),(1,a8),(3,aI),(4,.box [.own 6,.own 5,.own 8]),(5,aE),(6,a8),(7,aE),(8,aI)]⟩)] [] 4 (by kernel_rfl) fun _=>by kernel_rfl
def f60.L1(x:Hb):Option (T2⊕T2) :=
 it (X:=Hb) (fun rec x=>match x with
 | (v0,v1,v2,v3,v4,v5,v6,v7,v8,v9,v10,v11,v12,v13,v14,v15,_) =>
 bif decide (v1<v0) then
 bif ae v1 (ln v12) then
 bif (gd v12 (tn v1) zE).1 !=0 then
 bif (gd v12 (tn v1) zE).1 !=1 then
 ob (f116 v14 v1) fun y0 =>
 rec (v0,wp .i64 (v1+1),v2,v3,v4,v5,v6,v7,v8,v9,v10,v11,v12,v13,y0.1,v15,())
 else
 rec (v0,wp .i64 (v1+1),v2,v3,v4,v5,v6,v7,v8,v9,v10,v11,v12,v13,v14,v15,())
 else
 rec (v0,wp .i64 (v1+1),v2,v3,v4,v5,v6,v7,v8,v9,v10,v11,v12,v13,v14,v15,())
 else
 none
 else
 some (il (v2,v3,v4,v5,v6,v7,v8,v9,v10,v11,v13,v14,v15,()))
 ) (100000000000000000000) (x)
def f60.L2(x:HG):Option (T2⊕T2) :=
 it (X:=HG) (fun rec x=>match x with
 | (v0,v1,v2,v3,v4,v5,v6,v7,v8,v9,v10,v11,v12,v13,v14,_) =>
 bif decide (v1<v0) then
 bif ae v1 (ln v12) then
 bif (gd v12 (tn v1) zE).1 !=0 then
 bif (gd v12 (tn v1) zE).1 !=1 then
 ob (f116 v12 v1) fun y0 =>
 f60.L1 ((v0,wp .i64 (v1+1),v2,v3,v4,v5,v6,v7,v8,v9,v10,v11,v12,v13,y0.1,v14,()))
 else
 rec (v0,wp .i64 (v1+1),v2,v3,v4,v5,v6,v7,v8,v9,v10,v11,v12,v13,v14,())
 else
 rec (v0,wp .i64 (v1+1),v2,v3,v4,v5,v6,v7,v8,v9,v10,v11,v12,v13,v14,())
 else
 none
 else
 some (il (v2,v3,v4,v5,v6,v7,v8,v9,v10,v11,v13,v12,v14,()))
 ) (100000000000000000000) (x)
def f60.L3(x:Hp):Option (T2) :=
 it (X:=Hp) (fun rec x=>match x with
 | (v0,v1,v2,v3,v4,v5,v6,v7,v8,v9,v10,v11,v12,v13,v14,_) =>
 bif decide (v1<v0) then
 bif ae v1 (ln v12) then
 bif (gd v12 (tn v1) (0,0,0,0)).2.1==1 then
 bif ae v1 (ln v12) then
 rec (v0,wp .i64 (v1+1),v2,v3,v4,v5,v6,v7,v8,v9,v10,v11,ls v12 (tn v1) (0,0,0,0),v13,v14,())
 else
 none
 else
 bif (gd v12 (tn v1) (0,0,0,0)).2.1==4 then
 bif ae v1 (ln v12) then
 rec (v0,wp .i64 (v1+1),v2,v3,v4,v5,v6,v7,v8,v9,v10,v11,ls v12 (tn v1) (0,0,0,0),v13,v14,())
 else
 none
 else
 rec (v0,wp .i64 (v1+1),v2,v3,v4,v5,v6,v7,v8,v9,v10,v11,v12,v13,v14,())
 else
 none
 else
 ob (f52_1 v2 v3 v4 v5 v6 v7 v8 v9 v10 v11 v13 v14 v12) fun y0 =>
 some ((y0.1,y0.2.1,y0.2.2.1,y0.2.2.2.1,y0.2.2.2.2.1,y0.2.2.2.2.2.1,y0.2.2.2.2.2.2.1,y0.2.2.2.2.2.2.2.1,y0.2.2.2.2.2.2.2.2.1,y0.2.2.2.2.2.2.2.2.2.1,y0.2.2.2.2.2.2.2.2.2.2.2.2.1,y0.2.2.2.2.2.2.2.2.2.2.2.2.2.1,y0.2.2.2.2.2.2.2.2.2.2.2.2.2.2.1,()))
 ) (100000000000000000000) (x)
def f60(a0 a1 a2 a3 a4 a5 a6 a7:Int)(a8 a9:Bool)(a10:LZ)(a11:LE)(a12:LI):Option (T2) :=
 bif decide (a2≥3) then
 some ((a0,a1,a2,1,a4,a5,a6,a7,a8,a9,a10,a11,a12,()))
 else
 ob (α:=T2⊕T2) (
 f60.L2 (((↑(ln a11):Int),0,a0,a1,wp .i64 (a2+1),a3,a4,a5,a6,a7,a8,a9,a11,a10,a12,()))
 ) fun y0 =>
 el (fun y1=>match y1 with
 | (u1_0,u1_1,u1_2,u1_3,u1_4,u1_5,u1_6,u1_7,u1_8,u1_9,u1_10,u1_11,u1_12,_) =>
 f60.L3 (((↑(ln u1_12):Int),0,u1_0,u1_1,u1_2,u1_3,u1_4,u1_5,u1_6,u1_7,u1_8,u1_9,u1_12,u1_10,u1_11,()))
 ) (fun z2 =>
 some (z2)
 ) (y0)
def f60.S:ah:=⟨⟨[(0,pt 0)],[(0,bx (.own 1) (.own 2) (.own 3)),(1,a8),(2,aE),(3,aI)]⟩,[⟨[],[(0,bx (.own 4) (.own 5) (.own 6)),(4,a8),(5,aE),(6,aI)]⟩],[0],fun(a,b,c,d,e,f,g,h,i,j,k,l,m,_)=>f60 a b c d e f g h i j k l m⟩
theorem f60.sound:SO 60 f60.S:=so [b f116.sound,b f52_1.sound] n0 [(10,⟨[(0,pt 0)],[(0,bx (.own 4) (.own 5) (.own 6)),(4,a8),(5,aE),(6,aI)]⟩)] [(5,⟨[(0,pt 0),(29,ow 4),(30,n6),(31,n6)],[(0,bx (.own 5) (.own 4) (.own 6)),(4,aE),(5,a8),(6,aI)]⟩),(5,⟨[(0,pt 0),(29,ow 4),(30,n6),(31,n6)],[(0,bx (.own 5) (.own 6) (.own 7)),(4,aE),(5,a8),(6,aE),(7,aI)]⟩),(11,⟨[(0,pt 0),(60,ow 4),(61,n6),(62,n6)],[(0,bx (.own 5) (.own 6) (.own 4)),(4,aI),(5,a8),(6,aE)]⟩)] [] 4 (by kernel_rfl) fun _=>by kernel_rfl
def f20.L1(x:zb):Option (T0) :=
 it (X:=zb) (fun rec x=>match x with
 | (v0,v1,v2,v3,v4,v5,v6,v7,v8,v9,v10,v11,v12,v13,v14,v15,v16,v17,v18,v19,v20,v21,v22,v23,v24,v25,v26,v27,v28,v29,v30,v31,v32,v33,_) =>
 ob (α:=zb⊕T0) (
 bif decide (v0<4) then
 bif ae v0 4 then
 bif gd [v3,v6,v9,v12] (tn v0) false then
 ob (f55 v0 v21 v22 v23 v24 v25 v26 v27 v28 v29 v30 v31 v32 v33) fun y0 =>
 some (il (v0,v1,v2,v3,v4,v5,v6,v7,v8,v9,v10,v11,v12,v13,v14,v15,v16,v17,v18,v19,v20,y0.1,y0.2.1,y0.2.2.1,y0.2.2.2.1,y0.2.2.2.2.1,y0.2.2.2.2.2.1,y0.2.2.2.2.2.2.1,y0.2.2.2.2.2.2.2.1,y0.2.2.2.2.2.2.2.2.1,y0.2.2.2.2.2.2.2.2.2.1,y0.2.2.2.2.2.2.2.2.2.2.1,y0.2.2.2.2.2.2.2.2.2.2.2.2.1,y0.2.2.2.2.2.2.2.2.2.2.2.1,()))
 else
 some (il (v0,v1,v2,v3,v4,v5,v6,v7,v8,v9,v10,v11,v12,v13,v14,v15,v16,v17,v18,v19,v20,v21,v22,v23,v24,v25,v26,v27,v28,v29,v30,v31,v32,v33,()))
 else
 none
 else
 bif decide (v0<8) then
 bif v29 then
 bif ae (wp .i64 (v0-4)) 4 then
 ob (f56 (wp .i64 (v0-4)) (gd [v1,v4,v7,v10] (tn (wp .i64 (v0-4))) 0) (gd [v2,v5,v8,v11] (tn (wp .i64 (v0-4))) 0) (gd [v3,v6,v9,v12] (tn (wp .i64 (v0-4))) false) v21 v22 v23 v24 v25 v26 v27 v28 true v30 v31 v32 v33) fun y1 =>
 some (il (v0,v1,v2,v3,v4,v5,v6,v7,v8,v9,v10,v11,v12,v13,v14,v15,v16,v17,v18,v19,v20,y1.1,y1.2.1,y1.2.2.1,y1.2.2.2.1,y1.2.2.2.2.1,y1.2.2.2.2.2.1,y1.2.2.2.2.2.2.1,y1.2.2.2.2.2.2.2.1,y1.2.2.2.2.2.2.2.2.1,y1.2.2.2.2.2.2.2.2.2.1,y1.2.2.2.2.2.2.2.2.2.2.1,y1.2.2.2.2.2.2.2.2.2.2.2.1,y1.2.2.2.2.2.2.2.2.2.2.2.2.1,()))
 else
 none
 else
 ob (f54 ((v21,v22,v23,v24,v31,v32,v33,v25,v26,v27,v28),v29,v30)) fun y2 =>
 bif ae (wp .i64 (v0-4)) 4 then
 ob (f56 (wp .i64 (v0-4)) (gd [v1,v4,v7,v10] (tn (wp .i64 (v0-4))) 0) (gd [v2,v5,v8,v11] (tn (wp .i64 (v0-4))) 0) (gd [v3,v6,v9,v12] (tn (wp .i64 (v0-4))) false) v21 v22 v23 v24 v25 v26 v27 v28 y2.1 v30 v31 v32 v33) fun y3 =>
 some (il (v0,v1,v2,v3,v4,v5,v6,v7,v8,v9,v10,v11,v12,v13,v14,v15,v16,v17,v18,v19,v20,y3.1,y3.2.1,y3.2.2.1,y3.2.2.2.1,y3.2.2.2.2.1,y3.2.2.2.2.2.1,y3.2.2.2.2.2.2.1,y3.2.2.2.2.2.2.2.1,y3.2.2.2.2.2.2.2.2.1,y3.2.2.2.2.2.2.2.2.2.1,y3.2.2.2.2.2.2.2.2.2.2.1,y3.2.2.2.2.2.2.2.2.2.2.2.1,y3.2.2.2.2.2.2.2.2.2.2.2.2.1,()))
 else
 none
 else
 bif v0==8 then
 ob (f57 v21 v22 v23 v24 v25 v26 v27 v28 v29 v30 v31 v32 v33) fun y4 =>
 ob (f58 y4.1 y4.2.1 y4.2.2.1 y4.2.2.2.1 y4.2.2.2.2.2.2.2.2.2.2.1 y4.2.2.2.2.2.2.2.2.2.2.2.1 y4.2.2.2.2.2.2.2.2.2.2.2.2.1 y4.2.2.2.2.1 y4.2.2.2.2.2.1 y4.2.2.2.2.2.2.1 y4.2.2.2.2.2.2.2.1) fun y5 =>
 ob (f59 y5.1 y5.2.1 y5.2.2.1 y5.2.2.2.1 y5.2.2.2.2.1 y5.2.2.2.2.2.1 y5.2.2.2.2.2.2.1 y5.2.2.2.2.2.2.2.1 y4.2.2.2.2.2.2.2.2.1 y4.2.2.2.2.2.2.2.2.2.1 y5.2.2.2.2.2.2.2.2.1 y5.2.2.2.2.2.2.2.2.2.1 y5.2.2.2.2.2.2.2.2.2.2.1) fun y6 =>
 some (il (v0,v1,v2,v3,v4,v5,v6,v7,v8,v9,v10,v11,v12,v13,v14,v15,v16,v17,v18,v19,v20,y6.1,y6.2.1,y6.2.2.1,y6.2.2.2.1,y6.2.2.2.2.1,y6.2.2.2.2.2.1,y6.2.2.2.2.2.2.1,y6.2.2.2.2.2.2.2.1,y6.2.2.2.2.2.2.2.2.1,y6.2.2.2.2.2.2.2.2.2.1,y6.2.2.2.2.2.2.2.2.2.2.1,y6.2.2.2.2.2.2.2.2.2.2.2.2.1,y6.2.2.2.2.2.2.2.2.2.2.2.1,()))
 else
 ob (f54 ((v21,v22,v23,v24,v31,v32,v33,v25,v26,v27,v28),v29,v30)) fun y7 =>
 bif !y7.1 then
 ob (α:=Int×Int×Int×Int×Int×Int×Int×Int×T2⊕zb⊕T0) (
 bif v29 then
 some (il (v13,v14,v15,v16,v17,v18,v19,v20,v21,v22,v23,2,v25,v26,v27,v28,v29,v30,v31,v32,v33,()))
 else
 some (il (v13,v14,v15,v16,v17,v18,v19,v20,v21,v22,v23,v24,v25,v26,v27,v28,v29,v30,v31,v32,v33,()))
 ) fun y8 =>
 el (fun y9=>match y9 with
 | (_,_,_,_,_,_,_,_,u9_8,u9_9,u9_10,u9_11,u9_12,u9_13,u9_14,u9_15,_,_,u9_18,u9_19,u9_20,_) =>
 some (ir (u9_8,u9_9,u9_10,u9_11,u9_12,u9_13,u9_14,u9_15,u9_18,u9_19,u9_20,()))
 ) (fun z10 =>
 some (z10)
 ) (y8)
 else
 bif v30 then
 ob (f60 v21 v22 v23 v24 v25 v26 v27 v28 v29 v30 v31 v32 v33) fun y11 =>
 some (ir (y11.1,y11.2.1,y11.2.2.1,y11.2.2.2.1,y11.2.2.2.2.1,y11.2.2.2.2.2.1,y11.2.2.2.2.2.2.1,y11.2.2.2.2.2.2.2.1,y11.2.2.2.2.2.2.2.2.2.2.1,y11.2.2.2.2.2.2.2.2.2.2.2.1,y11.2.2.2.2.2.2.2.2.2.2.2.2.1,()))
 else
 some (ir (v21,v22,v23,v24,v25,v26,v27,v28,v31,v32,v33,()))
 ) fun y12 =>
 el (fun y13=>match y13 with
 | (u13_0,u13_1,u13_2,u13_3,u13_4,u13_5,u13_6,u13_7,u13_8,u13_9,u13_10,u13_11,u13_12,u13_13,u13_14,u13_15,u13_16,u13_17,u13_18,u13_19,u13_20,u13_21,u13_22,u13_23,u13_24,u13_25,u13_26,u13_27,u13_28,u13_29,u13_30,u13_31,u13_32,u13_33,_) =>
 rec (wp .i64 (u13_0+1),u13_1,u13_2,u13_3,u13_4,u13_5,u13_6,u13_7,u13_8,u13_9,u13_10,u13_11,u13_12,u13_13,u13_14,u13_15,u13_16,u13_17,u13_18,u13_19,u13_20,u13_21,u13_22,u13_23,u13_24,u13_25,u13_26,u13_27,u13_28,u13_29,u13_30,u13_31,u13_32,u13_33,())
 ) (fun z14 =>
 some (z14)
 ) (y12)
 ) (100000000000000000000) (x)
def f20(a0 a1 a2 a3:Int)(a4:LZ)(a5:LE)(a6:LI)(a7 a8 a9 a10 a11 a12:Int)(a13:Bool)(a14 a15:Int)(a16:Bool)(a17 a18:Int)(a19:Bool)(a20 a21:Int)(a22:Bool):Option (T0) :=
 ob (f53 a0 a1 a2 a3 a4 a5 a6 a7 a8 a9 a10) fun y0 =>
 bif a3==1 then
 some ((y0.1,wp .i64 (y0.2.1+1),y0.2.2.1,y0.2.2.2.1,y0.2.2.2.2.1,y0.2.2.2.2.2.1,y0.2.2.2.2.2.2.1,y0.2.2.2.2.2.2.2.1,y0.2.2.2.2.2.2.2.2.1,y0.2.2.2.2.2.2.2.2.2.1,y0.2.2.2.2.2.2.2.2.2.2.1,()))
 else
 bif a3==2 then
 some ((y0.1,wp .i64 (y0.2.1+1),y0.2.2.1,y0.2.2.2.1,y0.2.2.2.2.1,y0.2.2.2.2.2.1,y0.2.2.2.2.2.2.1,y0.2.2.2.2.2.2.2.1,y0.2.2.2.2.2.2.2.2.1,y0.2.2.2.2.2.2.2.2.2.1,y0.2.2.2.2.2.2.2.2.2.2.1,()))
 else
 ob (f54 ((y0.1,wp .i64 (y0.2.1+1),y0.2.2.1,y0.2.2.2.1,y0.2.2.2.2.2.2.2.2.1,y0.2.2.2.2.2.2.2.2.2.1,y0.2.2.2.2.2.2.2.2.2.2.1,y0.2.2.2.2.1,y0.2.2.2.2.2.1,y0.2.2.2.2.2.2.1,y0.2.2.2.2.2.2.2.1),false,false)) fun y1 =>
 ob (α:=zb⊕T0) (
 bif a13 then
 ob (f55 0 y0.1 (wp .i64 (y0.2.1+1)) y0.2.2.1 y0.2.2.2.1 y0.2.2.2.2.1 y0.2.2.2.2.2.1 y0.2.2.2.2.2.2.1 y0.2.2.2.2.2.2.2.1 y1.1 false y0.2.2.2.2.2.2.2.2.1 y0.2.2.2.2.2.2.2.2.2.1 y0.2.2.2.2.2.2.2.2.2.2.1) fun y22 =>
 some (il (0,a11,a12,a13,a14,a15,a16,a17,a18,a19,a20,a21,a22,0,0,0,0,0,0,0,0,y22.1,y22.2.1,y22.2.2.1,y22.2.2.2.1,y22.2.2.2.2.1,y22.2.2.2.2.2.1,y22.2.2.2.2.2.2.1,y22.2.2.2.2.2.2.2.1,y22.2.2.2.2.2.2.2.2.1,y22.2.2.2.2.2.2.2.2.2.1,y22.2.2.2.2.2.2.2.2.2.2.1,y22.2.2.2.2.2.2.2.2.2.2.2.2.1,y22.2.2.2.2.2.2.2.2.2.2.2.1,()))
 else
 some (il (0,a11,a12,a13,a14,a15,a16,a17,a18,a19,a20,a21,a22,0,0,0,0,0,0,0,0,y0.1,wp .i64 (y0.2.1+1),y0.2.2.1,y0.2.2.2.1,y0.2.2.2.2.1,y0.2.2.2.2.2.1,y0.2.2.2.2.2.2.1,y0.2.2.2.2.2.2.2.1,y1.1,false,y0.2.2.2.2.2.2.2.2.1,y0.2.2.2.2.2.2.2.2.2.1,y0.2.2.2.2.2.2.2.2.2.2.1,()))
 ) fun y2 =>
 el (fun y3=>match y3 with
 | (u3_0,u3_1,u3_2,u3_3,u3_4,u3_5,u3_6,u3_7,u3_8,u3_9,u3_10,u3_11,u3_12,u3_13,u3_14,u3_15,u3_16,u3_17,u3_18,u3_19,u3_20,u3_21,u3_22,u3_23,u3_24,u3_25,u3_26,u3_27,u3_28,u3_29,u3_30,u3_31,u3_32,u3_33,_) =>
 f20.L1 ((wp .i64 (u3_0+1),u3_1,u3_2,u3_3,u3_4,u3_5,u3_6,u3_7,u3_8,u3_9,u3_10,u3_11,u3_12,u3_13,u3_14,u3_15,u3_16,u3_17,u3_18,u3_19,u3_20,u3_21,u3_22,u3_23,u3_24,u3_25,u3_26,u3_27,u3_28,u3_29,u3_30,u3_31,u3_32,u3_33,()))
 ) (fun z4 =>
 some (z4)
 ) (y2)
def f20.S:ah:=⟨⟨[(0,wS),(1,.agg [i6,i6,.bool,i6,i6,.bool,i6,i6,.bool,i6,i6,.bool])],[]⟩,[⟨[(0,aw (.own 0) (.own 1) (.own 2))],[(0,a8),(1,aE),(2,aI)]⟩],[],fun(a,b,c,d,e,f,g,h,i,j,k,l,m,n,o,p,q,r,s,t,u,v,w,_)=>f20 a b c d e f g h i j k l m n o p q r s t u v w⟩
theorem f20.sound:SO 20 f20.S:=so [b f53.sound,b f54.sound,b f55.sound,b f56.sound,b f57.sound,b f58.sound,b f59.sound,b f60.sound] n0 [(22,⟨[(4,pt 0),(5,pt 1)],[(0,bw .nils .nils .nils),(1,bx (.own 2) (.own 3) (.own 4)),(2,a8),(3,aE),(4,aI)]⟩),(26,⟨[(3,pt 0),(4,pt 1),(5,pt 2),(6,n6)],[(0,.box [i6,i6,.bool,i6,i6,.bool,i6,i6,.bool,i6,i6,.bool]),(1,bw .nils .nils .nils),(2,bx (.own 3) (.own 4) (.own 5)),(3,a8),(4,aE),(5,aI)]⟩)] [] [(0,⟨[(3,pt 0),(4,pt 1),(5,pt 2),(6,n6)],[(0,.box [i6,i6,.bool,i6,i6,.bool,i6,i6,.bool,i6,i6,.bool]),(1,bw .nils .nils .nils),(2,bx (.own 3) (.own 4) (.own 5)),(3,a8),(4,aE),(5,aI)]⟩)] 0 (by kernel_rfl) fun _=>by kernel_rfl
def f49(a0 a1 a2:Int):Option (Bool×Unit) :=
 bif decide (a0≥a1) then
 some ((decide (a0≤a2),()))
 else
 some ((false,()))
def f49.S:ah:=⟨⟨[(0,n6),(1,n6),(2,n6)],[]⟩,[⟨[(0,nb)],[]⟩],[],fun(a,b,c,_)=>f49 a b c⟩
theorem f49.sound:SO 49 f49.S:=so [] n0 [] [] [] 0 (by kernel_rfl) fun _=>by kernel_rfl
def f93.L1(x:LZ×T3):Option (Int×Unit) :=
 it (X:=LZ×T3) (fun rec x =>
 bif decide (x.2.2.1<(↑(ln x.1):Int)) then
 bif ae x.2.2.1 (ln x.1) then
 rec (x.1,cz x.2.1 (gd x.1 (tn x.2.2.1) 0),wp .i64 (x.2.2.1+1),())
 else
 none
 else
 some ((x.2.1,()))
 ) (100000000000000000000) (x)
def f93(a0:LZ):Option (Int×Unit) :=
 bif decide ((↑(ln a0):Int)<1) then
 none
 else
 bif ae 0 (ln a0) then
 f93.L1 ((a0,gd a0 0 0,1,()))
 else
 none
def f93.S:ah:=⟨⟨[(0,r8)],[]⟩,[⟨[(0,.c (.int .u8))],[]⟩],[],fun x=>f93 x.1⟩
theorem f93.sound:SO 93 f93.S:=so [] n0 [] [(6,⟨[(0,r8),(3,.c (.int .u8)),(4,n6)],[]⟩)] [] 0 (by kernel_rfl) fun _=>by kernel_rfl
def f94(a0 a1:LZ):Option (Int×Unit):=cntF a0 a1
def f94.S:ah:=⟨zV,c6,[],fun x=>f94 x.1 x.2.1⟩
def f94.E:Env:=⟨bQ,[],[],[],[],[],0,[],1⟩
theorem f94.parts:uS f94.E ((Go.Proofs.Tryz.f94.body).getD .skip) 151 23 5:=by constructor<;>first | kernel_rfl | (unfold fb;kernel_rfl) | (intros;kernel_rfl)
theorem f94.sound:Sound Go.Proofs.Tryz.prog 94 f94.S:=vP (fn:=Go.Proofs.Tryz.f94) (fn2:=Go.Proofs.Tryz.f151) (f2:=151) (t:=23) (u:=5) (E:=f94.E) (c:=((Go.Proofs.Tryz.f94.body).getD .skip)) (X:=HO ((Go.Proofs.Tryz.f94.body).getD .skip)) (Y:=HL ((Go.Proofs.Tryz.f94.body).getD .skip)) (by kernel_rfl) (by kernel_rfl) (by kernel_rfl) (by kernel_rfl) (by kernel_rfl) (by kernel_rfl) (by kernel_rfl) (by kernel_rfl) (by kernel_rfl) (by kernel_rfl) f94.parts ⟨fx,bK.nil _,FnsOk.nil⟩ rfl
def f48.L1(x:Bool×Int×Int×Int×sP):Option (Int×Unit) :=
 it (X:=Bool×Int×Int×Int×sP) (fun rec x=>match x with
 | (v0,v1,v2,v3,v4,v5,v6,v7,v8,v9,v10,v11,v12,v13,v14,v15,v16,_) =>
 bif decide (v5<4) then
 bif ae v5 4 then
 bif v0 then
 ob (f49 (gd [v1,v2,v3,v4] (tn v5) 0) 0 999) fun y0 =>
 rec (y0.1,v1,v2,v3,v4,wp .i64 (v5+1),v6,v7,v8,v9,v10,v11,v12,v13,v14,v15,v16,())
 else
 rec (false,v1,v2,v3,v4,wp .i64 (v5+1),v6,v7,v8,v9,v10,v11,v12,v13,v14,v15,v16,())
 else
 none
 else
 bif !v0 then
 some ((1,()))
 else
 ob (α:=Bool×T6⊕Int×Unit) (
 bif (↑(ln v10):Int) !=384 then
 some (il (true,v6,v7,v8,v9,v10,v11,v12,v13,v14,v15,v16,()))
 else
 bif (↑(ln v11):Int) !=32 then
 some (il (true,v6,v7,v8,v9,v10,v11,v12,v13,v14,v15,v16,()))
 else
 some (il ((↑(ln v12):Int) !=40,v6,v7,v8,v9,v10,v11,v12,v13,v14,v15,v16,()))
 ) fun y1 =>
 el (fun y2 =>
 bif y2.1 then
 some ((4,()))
 else
 ob (f93 y2.2.2.2.2.2.1) fun y3 =>
 bif decide (y3.1>5) then
 some ((3,()))
 else
 ob (f94 y2.2.2.2.2.2.1 [3]) fun y4 =>
 bif y4.1 !=1 then
 some ((2,()))
 else
 ob (f94 y2.2.2.2.2.2.1 [4]) fun y5 =>
 bif y5.1 !=1 then
 some ((2,()))
 else
 some ((0,()))
 ) (fun z6 =>
 some (z6)
 ) (y1)
 ) (100000000000000000000) (x)
def f48(a0 a1 a2 a3:Int)(a4:LZ)(a5:LE)(a6:LI)(a7 a8 a9 a10:Int):Option (Int×Unit) :=
 ob (α:=Bool×T6⊕Int×Unit) (
 ob (f49 a1 0 1073741823) fun y12 =>
 bif y12.1 then
 ob (f49 a2 1 3) fun y13 =>
 bif y13.1 then
 ob (f49 a3 0 2) fun y14 =>
 some (il (y14.1,a0,a1,a2,a3,a4,a5,a6,a7,a8,a9,a10,()))
 else
 some (il (false,a0,a1,a2,a3,a4,a5,a6,a7,a8,a9,a10,()))
 else
 some (il (false,a0,a1,a2,a3,a4,a5,a6,a7,a8,a9,a10,()))
 ) fun y0 =>
 el (fun y1=>match y1 with
 | (u1_0,u1_1,u1_2,u1_3,u1_4,u1_5,u1_6,u1_7,u1_8,u1_9,u1_10,u1_11,_) =>
 f48.L1 ((u1_0,u1_8,u1_9,u1_10,u1_11,0,u1_1,u1_2,u1_3,u1_4,u1_5,u1_6,u1_7,u1_8,u1_9,u1_10,u1_11,()))
 ) (fun z2 =>
 some (z2)
 ) (y0)
def f48.S:ah:=⟨⟨[(0,wS)],[]⟩,[⟨[(0,n6)],[]⟩],[],fun(a,b,c,d,e,f,g,h,i,j,k,_)=>f48 a b c d e f g h i j k⟩
theorem f48.sound:SO 48 f48.S:=so [b f49.sound,b f93.sound,b f94.sound] n0 [(3,⟨[(1,pt 0),(3,nb)],[(0,bw q8 qE qI)]⟩),(11,⟨[(1,pt 0),(33,nb)],[(0,bw q8 qE qI)]⟩)] [(4,⟨[(1,pt 0),(3,nb),(20,.agg [i6,i6,i6,i6]),(21,n6)],[(0,bw q8 qE qI)]⟩)] [] 0 (by kernel_rfl) fun _=>by kernel_rfl
def f50(a0 a1 a2 a3:Int)(a4:LZ)(a5:LE)(a6:LI)(a7 a8 a9 a10 a11:Int):Option (Bool×Unit) :=
 bif ae a11 (ln a5) then
 ob (f49 (gd a5 (tn a11) zE).2.1 0 255) fun y0 =>
 bif !y0.1 then
 some ((false,()))
 else
 bif (gd a5 (tn a11) zE).1==0 then
 some (((gd a5 (tn a11) zE).1==0&&((gd a5 (tn a11) zE).2.1==(gd a5 (tn a11) zE).2.1&&((gd a5 (tn a11) zE).2.2.1==0&&((gd a5 (tn a11) zE).2.2.2.1==0&&((gd a5 (tn a11) zE).2.2.2.2.1==0&&((gd a5 (tn a11) zE).2.2.2.2.2.1==0&&((gd a5 (tn a11) zE).2.2.2.2.2.2.1==0&&((gd a5 (tn a11) zE).2.2.2.2.2.2.2.1==0&&((gd a5 (tn a11) zE).2.2.2.2.2.2.2.2.1==0&&((gd a5 (tn a11) zE).2.2.2.2.2.2.2.2.2.1==0&&((gd a5 (tn a11) zE).2.2.2.2.2.2.2.2.2.2==0&&true)))))))))),()))
 else
 ob (f75 (gd a5 (tn a11) zE).1) fun y1 =>
 ob (α:=Int×Bool×qU⊕Bool×Unit) (
 ob (f95 a4 (gd a5 (tn a11) zE).2.2.2.1 (gd a5 (tn a11) zE).2.2.2.2.1) fun y14 =>
 ob (f15 y14.1) fun y15 =>
 bif y15.1 then
 ob (f49 (gd a5 (tn a11) zE).2.2.2.2.2.1 1 y1.2.2.2.2.2.2.1) fun y16 =>
 bif y16.1 then
 bif (gd a5 (tn a11) zE).2.2.2.2.2.2.1==y1.2.2.2.2.2.2.1 then
 bif (gd a5 (tn a11) zE).2.2.2.2.2.2.2.1==y1.2.2.2.2.2.2.2.1 then
 some (il (a11,(gd a5 (tn a11) zE).2.2.2.2.2.2.2.2.1==y1.2.2.2.2.2.2.2.2.1,a0,a1,a2,a3,a4,a5,a6,a7,a8,a9,a10,(gd a5 (tn a11) zE).1,(gd a5 (tn a11) zE).2.1,(gd a5 (tn a11) zE).2.2.1,(gd a5 (tn a11) zE).2.2.2.1,(gd a5 (tn a11) zE).2.2.2.2.1,(gd a5 (tn a11) zE).2.2.2.2.2.1,(gd a5 (tn a11) zE).2.2.2.2.2.2.1,(gd a5 (tn a11) zE).2.2.2.2.2.2.2.1,(gd a5 (tn a11) zE).2.2.2.2.2.2.2.2.1,(gd a5 (tn a11) zE).2.2.2.2.2.2.2.2.2.1,(gd a5 (tn a11) zE).2.2.2.2.2.2.2.2.2.2,()))
 else
 some (il (a11,false,a0,a1,a2,a3,a4,a5,a6,a7,a8,a9,a10,(gd a5 (tn a11) zE).1,(gd a5 (tn a11) zE).2.1,(gd a5 (tn a11) zE).2.2.1,(gd a5 (tn a11) zE).2.2.2.1,(gd a5 (tn a11) zE).2.2.2.2.1,(gd a5 (tn a11) zE).2.2.2.2.2.1,(gd a5 (tn a11) zE).2.2.2.2.2.2.1,(gd a5 (tn a11) zE).2.2.2.2.2.2.2.1,(gd a5 (tn a11) zE).2.2.2.2.2.2.2.2.1,(gd a5 (tn a11) zE).2.2.2.2.2.2.2.2.2.1,(gd a5 (tn a11) zE).2.2.2.2.2.2.2.2.2.2,()))
 else
 some (il (a11,false,a0,a1,a2,a3,a4,a5,a6,a7,a8,a9,a10,(gd a5 (tn a11) zE).1,(gd a5 (tn a11) zE).2.1,(gd a5 (tn a11) zE).2.2.1,(gd a5 (tn a11) zE).2.2.2.1,(gd a5 (tn a11) zE).2.2.2.2.1,(gd a5 (tn a11) zE).2.2.2.2.2.1,(gd a5 (tn a11) zE).2.2.2.2.2.2.1,(gd a5 (tn a11) zE).2.2.2.2.2.2.2.1,(gd a5 (tn a11) zE).2.2.2.2.2.2.2.2.1,(gd a5 (tn a11) zE).2.2.2.2.2.2.2.2.2.1,(gd a5 (tn a11) zE).2.2.2.2.2.2.2.2.2.2,()))
 else
 some (il (a11,false,a0,a1,a2,a3,a4,a5,a6,a7,a8,a9,a10,(gd a5 (tn a11) zE).1,(gd a5 (tn a11) zE).2.1,(gd a5 (tn a11) zE).2.2.1,(gd a5 (tn a11) zE).2.2.2.1,(gd a5 (tn a11) zE).2.2.2.2.1,(gd a5 (tn a11) zE).2.2.2.2.2.1,(gd a5 (tn a11) zE).2.2.2.2.2.2.1,(gd a5 (tn a11) zE).2.2.2.2.2.2.2.1,(gd a5 (tn a11) zE).2.2.2.2.2.2.2.2.1,(gd a5 (tn a11) zE).2.2.2.2.2.2.2.2.2.1,(gd a5 (tn a11) zE).2.2.2.2.2.2.2.2.2.2,()))
 else
 some (il (a11,false,a0,a1,a2,a3,a4,a5,a6,a7,a8,a9,a10,(gd a5 (tn a11) zE).1,(gd a5 (tn a11) zE).2.1,(gd a5 (tn a11) zE).2.2.1,(gd a5 (tn a11) zE).2.2.2.1,(gd a5 (tn a11) zE).2.2.2.2.1,(gd a5 (tn a11) zE).2.2.2.2.2.1,(gd a5 (tn a11) zE).2.2.2.2.2.2.1,(gd a5 (tn a11) zE).2.2.2.2.2.2.2.1,(gd a5 (tn a11) zE).2.2.2.2.2.2.2.2.1,(gd a5 (tn a11) zE).2.2.2.2.2.2.2.2.2.1,(gd a5 (tn a11) zE).2.2.2.2.2.2.2.2.2.2,()))
 ) fun y2 =>
 el (fun y3=>match y3 with
 | (u3_0,u3_1,u3_2,u3_3,u3_4,u3_5,u3_6,u3_7,u3_8,u3_9,u3_10,u3_11,u3_12,u3_13,u3_14,u3_15,u3_16,u3_17,u3_18,u3_19,u3_20,u3_21,u3_22,u3_23,_) =>
 ob (α:=Int×Bool×qU⊕Bool×Unit) (
 bif u3_1 then
 ob (f49 u3_22 0 9) fun y12 =>
 bif y12.1 then
 ob (f49 u3_23 0 9) fun y13 =>
 some (il (u3_0,y13.1,u3_2,u3_3,u3_4,u3_5,u3_6,u3_7,u3_8,u3_9,u3_10,u3_11,u3_12,u3_13,u3_14,u3_15,u3_16,u3_17,u3_18,u3_19,u3_20,u3_21,u3_22,u3_23,()))
 else
 some (il (u3_0,false,u3_2,u3_3,u3_4,u3_5,u3_6,u3_7,u3_8,u3_9,u3_10,u3_11,u3_12,u3_13,u3_14,u3_15,u3_16,u3_17,u3_18,u3_19,u3_20,u3_21,u3_22,u3_23,()))
 else
 some (il (u3_0,false,u3_2,u3_3,u3_4,u3_5,u3_6,u3_7,u3_8,u3_9,u3_10,u3_11,u3_12,u3_13,u3_14,u3_15,u3_16,u3_17,u3_18,u3_19,u3_20,u3_21,u3_22,u3_23,()))
 ) fun y5 =>
 el (fun y6=>match y6 with
 | (u6_0,u6_1,_,_,_,_,_,u6_7,_,_,_,_,_,u6_13,_,u6_15,u6_16,u6_17,_,_,_,_,_,_,_) =>
 bif u6_13==1 then
 bif u6_1 then
 ob (f49 u6_15 0 3) fun y8 =>
 bif y8.1 then
 ob (f96 u6_7 u6_16 u6_17) fun y9 =>
 bif y9.1==u6_0 then
 ob (f97 u6_7 u6_15) fun y10 =>
 some ((y10.1==u6_0,()))
 else
 some ((false,()))
 else
 some ((false,()))
 else
 some ((false,()))
 else
 bif u6_1 then
 bif u6_15==0 then
 ob (f96 u6_7 u6_16 u6_17) fun y11 =>
 some ((y11.1==u6_0,()))
 else
 some ((false,()))
 else
 some ((false,()))
 ) (fun z7 =>
 some (z7)
 ) (y5)
 ) (fun z4 =>
 some (z4)
 ) (y2)
 else
 none
def f50.S:ah:=⟨⟨[(0,wS),(1,n6)],[]⟩,[⟨[(0,nb)],[]⟩],[],fun(a,b,c,d,e,f,g,h,i,j,k,l,_)=>f50 a b c d e f g h i j k l⟩
theorem f50.sound:SO 50 f50.S:=so [b f15.sound,b f75.sound,b f97.sound,b f96.sound,b f95.sound,b f49.sound] (bK.cons BS n0) [(9,⟨[(1,n6),(2,pt 0),(5,pt 1),(7,nb)],[(0,bw q8 qE qI),(1,bz)]⟩),(10,⟨[(1,n6),(2,pt 0),(5,pt 1),(7,nb)],[(0,bw q8 qE qI),(1,bz)]⟩)] [] [] 0 (by kernel_rfl) fun _=>by kernel_rfl
def f98(a0 a1 a2 a3:Int):Option (fR) :=
 some ((0,a1,a2,a3,()))
def f98.S:ah:=⟨⟨[(0,.agg [i6,i6,i6,i6])],[]⟩,[⟨[(0,.agg [i6,i6,i6,i6])],[]⟩],[],fun(a,b,c,d,_)=>f98 a b c d⟩
theorem f98.sound:SO 98 f98.S:=so [] n0 [] [] [] 0 (by kernel_rfl) fun _=>by kernel_rfl
def f99(a0 a1 a2 a3:Int)(a4:LZ)(a5:LE)(a6:LI)(a7 a8 a9 a10 a11 a12 a13 a14:Int):Option (Bool×Unit) :=
 ob (α:=Bool×Int×Int×Int×Int×LZ×LE×LI×Int×Int×Int×Int×fR⊕Bool×Unit) (
 bif decide (a11≥1) then
 some (il (decide (a11≤3),a0,a1,a2,a3,a4,a5,a6,a7,a8,a9,a10,a11,a12,a13,a14,()))
 else
 some (il (false,a0,a1,a2,a3,a4,a5,a6,a7,a8,a9,a10,a11,a12,a13,a14,()))
 ) fun y0 =>
 el (fun y1=>match y1 with
 | (u1_0,_,_,_,_,u1_5,_,_,_,_,_,_,u1_12,u1_13,u1_14,u1_15,_) =>
 ob (α:=Bool×fR⊕Bool×Unit) (
 bif u1_13==1 then
 bif u1_0 then
 ob (f95 u1_5 u1_14 u1_15) fun y6 =>
 ob (f15 y6.1) fun y7 =>
 some (ir (y7.1,()))
 else
 bif u1_12==4 then
 ob (f95 u1_5 u1_14 u1_15) fun y8 =>
 ob (f15 y8.1) fun y9 =>
 some (ir (y9.1,()))
 else
 some (ir (false,()))
 else
 bif u1_13==4 then
 bif u1_0 then
 bif decide (u1_14≥0) then
 bif decide (u1_14<3) then
 some (ir (u1_15==0,()))
 else
 some (ir (false,()))
 else
 some (ir (false,()))
 else
 some (ir (false,()))
 else
 bif u1_13==2 then
 bif u1_0 then
 bif decide (u1_15≥0) then
 some (il (decide (u1_15<4),u1_12,u1_13,u1_14,u1_15,()))
 else
 some (il (false,u1_12,u1_13,u1_14,u1_15,()))
 else
 some (il (false,u1_12,u1_13,u1_14,u1_15,()))
 else
 bif u1_13==3 then
 some (il (u1_0,u1_12,u1_13,u1_14,u1_15,()))
 else
 some (ir (false,()))
 ) fun y3 =>
 el (fun y4 =>
 bif y4.1 then
 bif decide (y4.2.2.2.1≥0) then
 bif decide (y4.2.2.2.1<4) then
 bif y4.2.2.1==2 then
 some ((true,()))
 else
 bif y4.2.1==wp .i64 (2+y4.2.2.2.2.1) then
 some ((decide (y4.2.2.2.2.1≥0),()))
 else
 some ((false,()))
 else
 some ((false,()))
 else
 some ((false,()))
 else
 some ((false,()))
 ) (fun z5 =>
 some (z5)
 ) (y3)
 ) (fun z2 =>
 some (z2)
 ) (y0)
def f99.S:ah:=⟨⟨[(0,wS),(1,.agg [i6,i6,i6,i6])],[]⟩,[⟨[(0,nb)],[]⟩],[],fun(a,b,c,d,e,f,g,h,i,j,k,l,m,n,o,_)=>f99 a b c d e f g h i j k l m n o⟩
theorem f99.sound:SO 99 f99.S:=so [b f15.sound,b f95.sound] n0 [(3,⟨[(2,pt 0),(3,pt 1),(5,nb)],[(0,bw q8 qE qI),(1,.box [i6,i6,i6,i6])]⟩),(11,⟨[(3,pt 0),(5,nb)],[(0,.box [i6,i6,i6,i6])]⟩)] [] [] 0 (by kernel_rfl) fun _=>by kernel_rfl
def f51(a0 a1 a2 a3:Int)(a4:LZ)(a5:LE)(a6:LI)(a7 a8 a9 a10:Int):Option (Bool×Unit):=tN (fun y=>f98 y.1 y.2.1 y.2.2.1 y.2.2.2) (fun x y=>f99 x.1 x.2.1 x.2.2.1 x.2.2.2.1 x.2.2.2.2.1 x.2.2.2.2.2.1 x.2.2.2.2.2.2.1 x.2.2.2.2.2.2.2.1 x.2.2.2.2.2.2.2.2.1 x.2.2.2.2.2.2.2.2.2.1 x.2.2.2.2.2.2.2.2.2.2.1 y.1 y.2.1 y.2.2.1 y.2.2.2) (a0,a1,a2,a3,a4,a5,a6,a7,a8,a9,a10,())
def f51.S:ah:=⟨zT,iP,[],fun x=>f51 x.1 x.2.1 x.2.2.1 x.2.2.2.1 x.2.2.2.2.1 x.2.2.2.2.2.1 x.2.2.2.2.2.2.1 x.2.2.2.2.2.2.2.1 x.2.2.2.2.2.2.2.2.1 x.2.2.2.2.2.2.2.2.2.1 x.2.2.2.2.2.2.2.2.2.2.1⟩
def f51.E:Env:=⟨bQ,[(98,f98.S),(99,f99.S)],[(106,k4)],[],[],[],0,[],1⟩
theorem f51.parts:o5 f51.E ((Go.Proofs.Tryz.f51.body).getD .skip) 140 (fun y=>f98 y.1 y.2.1 y.2.2.1 y.2.2.2) (fun x y=>f99 x.1 x.2.1 x.2.2.1 x.2.2.2.1 x.2.2.2.2.1 x.2.2.2.2.2.1 x.2.2.2.2.2.2.1 x.2.2.2.2.2.2.2.1 x.2.2.2.2.2.2.2.2.1 x.2.2.2.2.2.2.2.2.2.1 x.2.2.2.2.2.2.2.2.2.2.1 y.1 y.2.1 y.2.2.1 y.2.2.2):=by constructor<;>first | kernel_rfl | (unfold fb;kernel_rfl) | (intros;kernel_rfl)
theorem f51.sound:Sound Go.Proofs.Tryz.prog 51 f51.S:=AW (fn:=Go.Proofs.Tryz.f51) (E:=f51.E) (c:=((Go.Proofs.Tryz.f51.body).getD .skip)) (tM:=140) (tX:=106) (tI:=3) (pl:=(fun y=>f98 y.1 y.2.1 y.2.2.1 y.2.2.2)) (my:=(fun x y=>f99 x.1 x.2.1 x.2.2.1 x.2.2.2.1 x.2.2.2.2.1 x.2.2.2.2.2.1 x.2.2.2.2.2.2.1 x.2.2.2.2.2.2.2.1 x.2.2.2.2.2.2.2.2.1 x.2.2.2.2.2.2.2.2.2.1 x.2.2.2.2.2.2.2.2.2.2.1 y.1 y.2.1 y.2.2.1 y.2.2.2)) (by kernel_rfl) (by kernel_rfl) (by kernel_rfl) (by kernel_rfl) (by kernel_rfl) f51.parts ⟨fx,bK.cons nL (bK.nil _),fc f98.sound (fc f99.sound FnsOk.nil)⟩ rfl rfl (by kernel_rfl) (by kernel_rfl) nL (by intros;kernel_rfl) (by intros;kernel_rfl)
def f18.L1(x:LE×sP):Option (Int×Unit) :=
 it (X:=LE×sP) (fun rec x=>match x with
 | (v0,v1,v2,v3,v4,v5,v6,v7,v8,v9,v10,v11,v12,v13,_) =>
 bif decide (v2<v1) then
 bif ae v2 (ln v0) then
 ob (f49 (gd v0 (tn v2) zE).1 0 4) fun y0 =>
 bif !y0.1 then
 some ((3,()))
 else
 ob (f50 v3 v4 v5 v6 v7 v8 v9 v10 v11 v12 v13 v2) fun y1 =>
 bif !y1.1 then
 some ((9,()))
 else
 rec (v0,v1,wp .i64 (v2+1),v3,v4,v5,v6,v7,v8,v9,v10,v11,v12,v13,())
 else
 none
 else
 ob (f51 v3 v4 v5 v6 v7 v8 v9 v10 v11 v12 v13) fun y2 =>
 bif !y2.1 then
 some ((9,()))
 else
 some ((0,()))
 ) (100000000000000000000) (x)
def f18(a0 a1 a2 a3:Int)(a4:LZ)(a5:LE)(a6:LI)(a7 a8 a9 a10:Int):Option (Int×Unit) :=
 ob (f48 a0 a1 a2 a3 a4 a5 a6 a7 a8 a9 a10) fun y0 =>
 bif y0.1 !=0 then
 some ((y0.1,()))
 else
 f18.L1 ((a5,(↑(ln a5):Int),0,a0,a1,a2,a3,a4,a5,a6,a7,a8,a9,a10,()))
def f18.S:ah:=⟨⟨[(0,wS)],[]⟩,[⟨[(0,n6)],[]⟩],[],fun(a,b,c,d,e,f,g,h,i,j,k,_)=>f18 a b c d e f g h i j k⟩
theorem f18.sound:SO 18 f18.S:=so [b f49.sound,b f48.sound,b f50.sound,b f51.sound] n0 [] [(6,⟨[(1,pt 0),(12,rE),(13,n6),(14,n6)],[(0,bw q8 qE qI)]⟩)] [] 0 (by kernel_rfl) fun _=>by kernel_rfl
def f10.L1(x:Int×T0):Option (Bool×Unit) :=
 it (X:=Int×T0) (fun rec x=>match x with
 | (v0,v1,v2,v3,v4,v5,v6,v7,v8,v9,v10,v11,_) =>
 bif decide (v0<30) then
 ob (f20 v1 v2 v3 v4 v9 v10 v11 v5 v6 v7 v8 (if 0=0/3 then 2 else 0) (if 0=(0+1)/3 then 0 else 0) (if 0=(0+1+1)/3 then v0==0 else false) (if 0=(0+1+1+1)/3 then 2 else 0) (if 0=(0+1+1+1+1)/3 then 0 else 0) (if 0=(0+1+1+1+1+1)/3 then v0==0 else false) (if 0=(0+1+1+1+1+1+1)/3 then 2 else 0) (if 0=(0+1+1+1+1+1+1+1)/3 then 0 else 0) (if 0=(0+1+1+1+1+1+1+1+1)/3 then v0==0 else false) (if 0=(0+1+1+1+1+1+1+1+1+1)/3 then 2 else 0) (if 0=(0+1+1+1+1+1+1+1+1+1+1)/3 then 0 else 0) (if 0=(0+1+1+1+1+1+1+1+1+1+1+1)/3 then v0==0 else false)) fun y0 =>
 rec (wp .i64 (v0+1),y0.1,y0.2.1,y0.2.2.1,y0.2.2.2.1,y0.2.2.2.2.1,y0.2.2.2.2.2.1,y0.2.2.2.2.2.2.1,y0.2.2.2.2.2.2.2.1,y0.2.2.2.2.2.2.2.2.1,y0.2.2.2.2.2.2.2.2.2.1,y0.2.2.2.2.2.2.2.2.2.2.1,())
 else
 bif v2==30 then
 ob (f18 v1 v2 v3 v4 v9 v10 v11 v5 v6 v7 v8) fun y1 =>
 some ((y1.1==0,()))
 else
 some ((false,()))
 ) (100000000000000000000) (x)
def f10:Option (Bool×Unit) :=
 ob (f19 3) fun y0 =>
 f10.L1 ((0,y0.1,y0.2.1,y0.2.2.1,y0.2.2.2.1,y0.2.2.2.2.1,y0.2.2.2.2.2.1,y0.2.2.2.2.2.2.1,y0.2.2.2.2.2.2.2.1,y0.2.2.2.2.2.2.2.2.1,y0.2.2.2.2.2.2.2.2.2.1,y0.2.2.2.2.2.2.2.2.2.2.1,()))
def f10.S:ah:=⟨⟨[],[]⟩,[⟨[(0,nb)],[]⟩],[],fun _=>f10⟩
theorem f10.sound:SO 10 f10.S:=so [b f19.sound,b f20.sound,b f18.sound] n0 [] [(4,⟨[(1,pt 0),(2,n6)],[(0,bw (.own 1) (.own 2) (.own 3)),(1,a8),(2,aE),(3,aI)]⟩)] [] 0 (by kernel_rfl) fun _=>by kernel_rfl
def f184(a0:Int):Option (Int×Unit) :=
 some ((wp .u64 (↑(BitVec.toNat (BitVec.ofInt (IntKind.bits IntKind.u64) (wp .u64 (wp .u64 (↑(BitVec.toNat (BitVec.ofInt (IntKind.bits IntKind.u64) (wp .u64 (wp .u64 (↑(BitVec.toNat (BitVec.ofInt (IntKind.bits IntKind.u64) a0 ^^^ BitVec.ofInt (IntKind.bits IntKind.u64) (Int.fdiv a0 (2 ^ Min.min 30 (IntKind.bits IntKind.u64))))):Int)*13787848793156543929)) ^^^ BitVec.ofInt (IntKind.bits IntKind.u64) (Int.fdiv (wp .u64 (wp .u64 (↑(BitVec.toNat (BitVec.ofInt (IntKind.bits IntKind.u64) a0 ^^^ BitVec.ofInt (IntKind.bits IntKind.u64) (Int.fdiv a0 (2 ^ Min.min 30 (IntKind.bits IntKind.u64))))):Int)*13787848793156543929)) (2 ^ Min.min 27 (IntKind.bits IntKind.u64))))):Int)*10723151780598845931)) ^^^ BitVec.ofInt (IntKind.bits IntKind.u64) (Int.fdiv (wp .u64 (wp .u64 (↑(BitVec.toNat (BitVec.ofInt (IntKind.bits IntKind.u64) (wp .u64 (wp .u64 (↑(BitVec.toNat (BitVec.ofInt (IntKind.bits IntKind.u64) a0 ^^^ BitVec.ofInt (IntKind.bits IntKind.u64) (Int.fdiv a0 (2 ^ Min.min 30 (IntKind.bits IntKind.u64))))):Int)*13787848793156543929)) ^^^ BitVec.ofInt (IntKind.bits IntKind.u64) (Int.fdiv (wp .u64 (wp .u64 (↑(BitVec.toNat (BitVec.ofInt (IntKind.bits IntKind.u64) a0 ^^^ BitVec.ofInt (IntKind.bits IntKind.u64) (Int.fdiv a0 (2 ^ Min.min 30 (IntKind.bits IntKind.u64))))):Int)*13787848793156543929)) (2 ^ Min.min 27 (IntKind.bits IntKind.u64))))):Int)*10723151780598845931)) (2 ^ Min.min 31 (IntKind.bits IntKind.u64))))):Int),()))
def f184.S:ah:=⟨⟨[(0,.c (.int .u64))],[]⟩,[⟨[(0,.c (.int .u64))],[]⟩],[],fun x=>f184 x.1⟩
theorem f184.sound:SO 184 f184.S:=so [] n0 [] [] [] 0 (by kernel_rfl) fun _=>by kernel_rfl
def f169.L1(x:LZ×T3):Option (Int×Unit) :=
 it (X:=LZ×T3) (fun rec x =>
 bif decide (x.2.2.1<(↑(ln x.1):Int)) then
 bif ae x.2.2.1 (ln x.1) then
 ob (f184 (wp .u64 (wp .u64 (↑(BitVec.toNat (BitVec.ofInt (IntKind.bits IntKind.u64) x.2.1 ^^^ BitVec.ofInt (IntKind.bits IntKind.u64) (wp .u64 (gd x.1 (tn x.2.2.1) 0)))):Int)+11400714819323198485))) fun y0 =>
 rec (x.1,y0.1,wp .i64 (x.2.2.1+1),())
 else
 none
 else
 some ((x.2.1,()))
 ) (100000000000000000000) (x)
def f169(a0:Int)(a1:LZ):Option (Int×Unit) :=
 ob (f184 (wp .u64 (wp .u64 a0+11400714819323198485))) fun y0 =>
 f169.L1 ((a1,y0.1,0,()))
def f169.S:ah:=⟨⟨[(0,n6),(1,.c (.row (.int .i64)))],[]⟩,[⟨[(0,.c (.int .u64))],[]⟩],[],fun x=>f169 x.1 x.2.1⟩
theorem f169.sound:SO 169 f169.S:=so [b f184.sound] n0 [] [(4,⟨[(1,.c (.row (.int .i64))),(5,.c (.int .u64)),(6,n6)],[]⟩)] [] 0 (by kernel_rfl) fun _=>by kernel_rfl
def f146(a0 a1:Int)(a2:LZ):Option (Int×Unit) :=
 bif decide (a0<1) then
 some ((0,()))
 else
 ob (f169 a1 a2) fun y0 =>
 bif decide (wp .u64 a0=0) then
 none
 else
 some ((wp .i64 (Int.tmod y0.1 (wp .u64 a0)),()))
def f146.S:ah:=⟨⟨[(0,n6),(1,n6),(2,.c (.row (.int .i64)))],[]⟩,[⟨[(0,n6)],[]⟩],[],fun(a,b,c,_)=>f146 a b c⟩
theorem f146.sound:SO 146 f146.S:=so [b f169.sound] n0 [] [] [] 0 (by kernel_rfl) fun _=>by kernel_rfl
def f119(a0 a1 a2 a3 a4:Int):Option (Int×Unit) :=
 ob (f146 a4 a0 [a1,a2,a3]) fun y0 =>
 some ((y0.1,()))
def f119.S:ah:=⟨⟨[(0,n6),(1,n6),(2,n6),(3,n6),(4,n6)],[]⟩,[⟨[(0,n6)],[]⟩],[],fun(a,b,c,d,e,_)=>f119 a b c d e⟩
theorem f119.sound:SO 119 f119.S:=so [b f146.sound] n0 [] [] [] 0 (by kernel_rfl) fun _=>by kernel_rfl
def f120(a0 a1:Int)(a2:Bool)(a3:LZ):Option (Bool×LZ×Unit) :=
 bif ae (wp .i64 (wp .i64 (a1*24)+a0)) (ln a3) then
 bif gd a3 (tn (wp .i64 (wp .i64 (a1*24)+a0))) 0 !=0 then
 some ((a2,a3,()))
 else
 bif ae (wp .i64 (wp .i64 (a1*24)+a0)) (ln a3) then
 bif !a2 then
 bif ae (wp .i64 (wp .i64 (a1*24)+a0)) (ln (ls a3 (tn (wp .i64 (wp .i64 (a1*24)+a0))) 1)) then
 some ((true,ls (ls a3 (tn (wp .i64 (wp .i64 (a1*24)+a0))) 1) (tn (wp .i64 (wp .i64 (a1*24)+a0))) 2,()))
 else
 none
 else
 some ((true,ls a3 (tn (wp .i64 (wp .i64 (a1*24)+a0))) 1,()))
 else
 none
 else
 none
def f120.S:ah:=⟨⟨[(0,ow 0),(1,n6),(2,n6),(3,nb)],[(0,a8)]⟩,[⟨[(0,nb)],[(0,a8)]⟩],[0],fun(a,b,c,d,_)=>f120 a b c d⟩
theorem f120.sound:SO 120 f120.S:=so [] n0 [] [] [] 1 (by kernel_rfl) fun _=>by kernel_rfl
def f121(a0 a1:Int):Option (Int×Unit) :=
 bif decide (a0<a1) then
 some ((wp .i64 (a0+1),()))
 else
 some ((wp .i64 (a0-1),()))
def f121.S:ah:=⟨⟨[(0,n6),(1,n6)],[]⟩,[⟨[(0,n6)],[]⟩],[],fun x=>f121 x.1 x.2.1⟩
theorem f121.sound:SO 121 f121.S:=so [] n0 [] [] [] 0 (by kernel_rfl) fun _=>by kernel_rfl
def f141(a0 a1:Int):Option (Bool×Unit) :=
 bif decide (a0≥0) then
 bif decide (a0<24) then
 bif decide (a1≥0) then
 some ((decide (a1<16),()))
 else
 some ((false,()))
 else
 some ((false,()))
 else
 some ((false,()))
def f141.S:ah:=⟨⟨[(0,n6),(1,n6)],[]⟩,[⟨[(0,nb)],[]⟩],[],fun x=>f141 x.1 x.2.1⟩
theorem f141.sound:SO 141 f141.S:=so [] n0 [] [] [] 0 (by kernel_rfl) fun _=>by kernel_rfl
def f86(a0:LZ)(a1 a2:Int):Option (Int×Unit) :=
 ob (f141 a1 a2) fun y0 =>
 bif !y0.1 then
 some ((0,()))
 else
 bif decide (wp .i64 (wp .i64 (a2*24)+a1)≥(↑(ln a0):Int)) then
 some ((0,()))
 else
 bif ae (wp .i64 (wp .i64 (a2*24)+a1)) (ln a0) then
 some ((wp .i64 (gd a0 (tn (wp .i64 (wp .i64 (a2*24)+a1))) 0),()))
 else
 none
def f86.S:ah:=⟨⟨[(0,r8),(1,n6),(2,n6)],[]⟩,[⟨[(0,n6)],[]⟩],[],fun(a,b,c,_)=>f86 a b c⟩
theorem f86.sound:SO 86 f86.S:=so [b f141.sound] n0 [] [] [] 0 (by kernel_rfl) fun _=>by kernel_rfl
def f140(a0:Int):Option (Bool×Unit) :=
 bif decide (a0≥1) then
 some ((decide (a0≤5),()))
 else
 some ((false,()))
def f140.S:ah:=⟨⟨[(0,n6)],[]⟩,[⟨[(0,nb)],[]⟩],[],fun x=>f140 x.1⟩
theorem f140.sound:SO 140 f140.S:=so [] n0 [] [] [] 0 (by kernel_rfl) fun _=>by kernel_rfl
def f122.L1(k0:sy→Option (LZ×Unit))(x:LZ×List Bool×Int×Int×oN):Option (LZ×Unit) :=
 it (X:=LZ×List Bool×Int×Int×oN) (fun rec x=>match x with
 | (v0,v1,v2,v3,v4,v5,v6,_) =>
 bif decide (v4<4) then
 ob (α:=LZ×List Bool×Int×Am⊕LZ×Unit) (
 bif v4==0 then
 some (il (v0,v1,v2,v3,v4,Int.tmod v3 24,wp .i64 (wp .i64 (Int.tdiv v3 24)-1),v5,v6,()))
 else
 bif v4==1 then
 some (il (v0,v1,v2,v3,v4,wp .i64 (Int.tmod v3 24+1),wp .i64 (Int.tdiv v3 24),v5,v6,()))
 else
 bif v4==2 then
 some (il (v0,v1,v2,v3,v4,Int.tmod v3 24,wp .i64 (wp .i64 (Int.tdiv v3 24)+1),v5,v6,()))
 else
 bif v4==3 then
 some (il (v0,v1,v2,v3,v4,wp .i64 (Int.tmod v3 24-1),wp .i64 (Int.tdiv v3 24),v5,v6,()))
 else
 some (il (v0,v1,v2,v3,v4,Int.tmod v3 24,wp .i64 (Int.tdiv v3 24),v5,v6,()))
 ) fun y0 =>
 el (fun y1=>match y1 with
 | (u1_0,u1_1,u1_2,u1_3,u1_4,u1_5,u1_6,u1_7,u1_8,_) =>
 ob (f141 u1_5 u1_6) fun y2 =>
 bif y2.1 then
 bif ae (wp .i64 (wp .i64 (u1_6*24)+u1_5)) (ln u1_7) then
 bif decide (gd u1_7 (tn (wp .i64 (wp .i64 (u1_6*24)+u1_5))) 0<0) then
 ob (f86 u1_0 u1_5 u1_6) fun y3 =>
 ob (f140 y3.1) fun y4 =>
 bif y4.1 then
 bif decide (wp .i64 (wp .i64 (u1_6*24)+u1_5)≥(↑(ln u1_1):Int)) then
 bif ae u1_3 (ln u1_7) then
 bif ae (wp .i64 (wp .i64 (u1_6*24)+u1_5)) (ln u1_7) then
 bif decide (ln u1_8+1≤aB 8) then
 let s0:LZ:=ls u1_7 (tn (wp .i64 (wp .i64 (u1_6*24)+u1_5))) (wp .i64 (gd u1_7 (tn u1_3) 0+1))
 rec (u1_0,u1_1,u1_2,u1_3,wp .i64 (u1_4+1),s0,u1_8++[wp .i64 (wp .i64 (u1_6*24)+u1_5)],())
 else
 none
 else
 none
 else
 none
 else
 bif ae (wp .i64 (wp .i64 (u1_6*24)+u1_5)) (ln u1_1) then
 bif !gd u1_1 (tn (wp .i64 (wp .i64 (u1_6*24)+u1_5))) false then
 bif ae u1_3 (ln u1_7) then
 bif ae (wp .i64 (wp .i64 (u1_6*24)+u1_5)) (ln u1_7) then
 bif decide (ln u1_8+1≤aB 8) then
 let s0:LZ:=ls u1_7 (tn (wp .i64 (wp .i64 (u1_6*24)+u1_5))) (wp .i64 (gd u1_7 (tn u1_3) 0+1))
 rec (u1_0,u1_1,u1_2,u1_3,wp .i64 (u1_4+1),s0,u1_8++[wp .i64 (wp .i64 (u1_6*24)+u1_5)],())
 else
 none
 else
 none
 else
 none
 else
 rec (u1_0,u1_1,u1_2,u1_3,wp .i64 (u1_4+1),u1_7,u1_8,())
 else
 none
 else
 rec (u1_0,u1_1,u1_2,u1_3,wp .i64 (u1_4+1),u1_7,u1_8,())
 else
 rec (u1_0,u1_1,u1_2,u1_3,wp .i64 (u1_4+1),u1_7,u1_8,())
 else
 none
 else
 rec (u1_0,u1_1,u1_2,u1_3,wp .i64 (u1_4+1),u1_7,u1_8,())
 ) (fun z5 =>
 some (z5)
 ) (y0)
 else
 k0 (v0,v1,wp .i64 (v2+1),v5,v6,())
 ) (100000000000000000000) (x)
def f122.L2(x:sy):Option (LZ×Unit) :=
 it (X:=sy) (fun rec x =>
 bif decide (x.2.2.1<(↑(ln x.2.2.2.2.1):Int)) then
 bif ae x.2.2.1 (ln x.2.2.2.2.1) then
 f122.L1 rec ((x.1,x.2.1,x.2.2.1,gd x.2.2.2.2.1 (tn x.2.2.1) 0,0,x.2.2.2.1,x.2.2.2.2.1,()))
 else
 none
 else
 some ((x.2.2.2.1,()))
 ) (100000000000000000000) (x)
def f122.L3(x:sy):Option (LZ×Unit) :=
 it (X:=sy) (fun rec x =>
 bif decide (x.2.2.1<384) then
 bif ae x.2.2.1 (ln x.2.2.2.1) then
 bif gd x.2.2.2.1 (tn x.2.2.1) 0==0 then
 bif decide (ln x.2.2.2.2.1+1≤aB 8) then
 rec (x.1,x.2.1,wp .i64 (x.2.2.1+1),x.2.2.2.1,x.2.2.2.2.1++[x.2.2.1],())
 else
 none
 else
 rec (x.1,x.2.1,wp .i64 (x.2.2.1+1),x.2.2.2.1,x.2.2.2.2.1,())
 else
 none
 else
 f122.L2 ((x.1,x.2.1,0,x.2.2.2.1,x.2.2.2.2.1,()))
 ) (100000000000000000000) (x)
def f122.L4(x:Db):Option (LZ×Unit) :=
 it (X:=Db) (fun rec x =>
 bif decide (x.2.2.2.1<(↑(ln x.2.2.1):Int)) then
 bif ae x.2.2.2.1 (ln x.2.2.1) then
 bif decide (gd x.2.2.1 (tn x.2.2.2.1) 0≥0) then
 bif decide (gd x.2.2.1 (tn x.2.2.2.1) 0<384) then
 ob (f86 x.1 (Int.tmod (gd x.2.2.1 (tn x.2.2.2.1) 0) 24) (wp .i64 (Int.tdiv (gd x.2.2.1 (tn x.2.2.2.1) 0) 24))) fun y0 =>
 ob (f140 y0.1) fun y1 =>
 bif y1.1 then
 bif ae (gd x.2.2.1 (tn x.2.2.2.1) 0) (ln x.2.2.2.2.1) then
 rec (x.1,x.2.1,x.2.2.1,wp .i64 (x.2.2.2.1+1),ls x.2.2.2.2.1 (tn (gd x.2.2.1 (tn x.2.2.2.1) 0)) 0,())
 else
 none
 else
 rec (x.1,x.2.1,x.2.2.1,wp .i64 (x.2.2.2.1+1),x.2.2.2.2.1,())
 else
 rec (x.1,x.2.1,x.2.2.1,wp .i64 (x.2.2.2.1+1),x.2.2.2.2.1,())
 else
 rec (x.1,x.2.1,x.2.2.1,wp .i64 (x.2.2.2.1+1),x.2.2.2.2.1,())
 else
 none
 else
 f122.L3 ((x.1,x.2.1,0,x.2.2.2.2.1,[],()))
 ) (100000000000000000000) (x)
def f122.L5(x:Db):Option (LZ×Unit) :=
 it (X:=Db) (fun rec x =>
 bif decide (x.2.2.2.1<384) then
 bif ae x.2.2.2.1 (ln x.2.2.2.2.1) then
 rec (x.1,x.2.1,x.2.2.1,wp .i64 (x.2.2.2.1+1),ls x.2.2.2.2.1 (tn x.2.2.2.1) (-1),())
 else
 none
 else
 f122.L4 ((x.1,x.2.1,x.2.2.1,0,x.2.2.2.2.1,()))
 ) (100000000000000000000) (x)
def f122(a0:LZ)(a1:List Bool)(a2:LZ):Option (LZ×Unit) :=
 f122.L5 ((a0,a1,a2,0,rp 384 0,()))
def f122.S:ah:=⟨⟨[(0,r8),(1,.c (.row .bool)),(2,.c (.row (.int .i64)))],[]⟩,[⟨[(0,ow 0)],[(0,.arr (.int .i64))]⟩],[],fun(a,b,c,_)=>f122 a b c⟩
theorem f122.sound:SO 122 f122.S:=so [b f141.sound,b f86.sound,b f140.sound] n0 [(36,⟨[(0,r8),(1,.c (.row .bool)),(7,ow 0),(11,ow 1),(13,n6),(14,n6),(15,n6),(16,n6),(17,n6)],[(0,.arr (.int .i64)),(1,.arr (.int .i64))]⟩)] [(4,⟨[(0,r8),(1,.c (.row .bool)),(2,.c (.row (.int .i64))),(7,ow 0),(8,n6)],[(0,.arr (.int .i64))]⟩),(8,⟨[(0,r8),(1,.c (.row .bool)),(2,.c (.row (.int .i64))),(7,ow 0),(9,n6)],[(0,.arr (.int .i64))]⟩),(15,⟨[(0,r8),(1,.c (.row .bool)),(7,ow 0),(11,ow 1),(12,n6)],[(0,.arr (.int .i64)),(1,.arr (.int .i64))]⟩),(20,⟨[(0,r8),(1,.c (.row .bool)),(7,ow 0),(11,ow 1),(13,n6)],[(0,.arr (.int .i64)),(1,.arr (.int .i64))]⟩),(24,⟨[(0,r8),(1,.c (.row .bool)),(7,ow 0),(11,ow 1),(13,n6),(14,n6),(15,n6)],[(0,.arr (.int .i64)),(1,.arr (.int .i64))]⟩)] [] 0 (by kernel_rfl) fun _=>by kernel_rfl
def f123.L1(x:LZ×LZ×Int×List Bool×oK):Option (Int×Unit) :=
 it (X:=LZ×LZ×Int×List Bool×oK) (fun rec x=>match x with
 | (v0,v1,v2,v3,v4,v5,v6,v7,v8,_) =>
 bif decide (v7<384) then
 bif ae v7 (ln v0) then
 bif gd v0 (tn v7) 0==1 then
 bif ae v7 (ln v1) then
 bif decide (gd v1 (tn v7) 0≥v2) then
 bif ae v7 (ln v3) then
 bif !gd v3 (tn v7) false then
 bif decide (ln v8+1≤aB 8) then
 rec (v0,v1,v2,v3,v4,v5,v6,wp .i64 (v7+1),v8++[v7],())
 else
 none
 else
 rec (v0,v1,v2,v3,v4,v5,v6,wp .i64 (v7+1),v8,())
 else
 none
 else
 rec (v0,v1,v2,v3,v4,v5,v6,wp .i64 (v7+1),v8,())
 else
 none
 else
 rec (v0,v1,v2,v3,v4,v5,v6,wp .i64 (v7+1),v8,())
 else
 none
 else
 bif (↑(ln v8):Int)==0 then
 some ((-1,()))
 else
 ob (f119 v4 v5 v6 0 (↑(ln v8):Int)) fun y0 =>
 bif ae y0.1 (ln v8) then
 some ((gd v8 (tn y0.1) 0,()))
 else
 none
 ) (100000000000000000000) (x)
def f123(a0 a1:LZ)(a2:Int)(a3:List Bool)(a4 a5 a6:Int):Option (Int×Unit) :=
 f123.L1 ((a0,a1,a2,a3,a4,a5,a6,0,[],()))
def f123.S:ah:=⟨⟨[(0,r8),(1,.c (.row (.int .i64))),(2,n6),(3,.c (.row .bool)),(4,n6),(5,n6),(6,n6)],[]⟩,[⟨[(0,n6)],[]⟩],[],fun(a,b,c,d,e,f,g,_)=>f123 a b c d e f g⟩
theorem f123.sound:SO 123 f123.S:=so [b f119.sound] n0 [] [(4,⟨[(0,r8),(1,.c (.row (.int .i64))),(2,n6),(3,.c (.row .bool)),(4,n6),(5,n6),(6,n6),(15,ow 0),(16,n6)],[(0,.arr (.int .i64))]⟩)] [] 0 (by kernel_rfl) fun _=>by kernel_rfl
def f81(a0:Int):Option (T1) :=
 ob (α:=Int×Int×Int×Int×T1⊕T1) (
 bif a0==1 then
 some (il (a0,20,5,1,0,0,0,0,0,0,0,0,0,0,0,()))
 else
 bif a0==2 then
 some (il (a0,4,2,0,0,0,0,0,0,0,0,0,0,0,0,()))
 else
 bif a0==3 then
 some (il (a0,9,4,1,0,0,0,0,0,0,0,0,0,0,0,()))
 else
 bif a0==4 then
 some (il (a0,6,3,0,0,0,0,0,0,0,0,0,0,0,0,()))
 else
 some (ir (0,0,0,0,0,0,0,0,0,0,0,()))
 ) fun y0 =>
 el (fun y1 =>
 some ((y1.1,0,0,0,0,y1.2.1,y1.2.1,y1.2.2.1,y1.2.2.2.1,0,0,()))
 ) (fun z2 =>
 some (z2)
 ) (y0)
def f81.S:ah:=⟨⟨[(0,n6)],[]⟩,[⟨[(0,eS)],[]⟩],[],fun x=>f81 x.1⟩
theorem f81.sound:SO 81 f81.S:=so [] n0 [(13,⟨[(0,n6),(2,pt 0),(3,n6),(4,n6),(5,n6)],[(0,bz)]⟩)] [] [] 0 (by kernel_rfl) fun _=>by kernel_rfl
def f64.L1(k0:zN→Option (T9))(x:Int×zN):Option (T9) :=
 it (X:=Int×zN) (fun rec x=>match x with
 | (v0,v1,v2,v3,v4,v5,v6,v7,v8,v9,v10,v11,v12,v13,v14,v15,v16,v17,v18,v19,v20,v21,_) =>
 bif decide (v8<wp .i64 (v5+v3)) then
 bif ae (wp .i64 (wp .i64 (v7*24)+v8)) (ln v9) then
 rec (v0,v1,v2,v3,v4,v5,v6,v7,wp .i64 (v8+1),ls v9 (tn (wp .i64 (wp .i64 (v7*24)+v8))) 1,v10,v11,v12,v13,v14,v15,v16,v17,v18,v19,v20,v21,())
 else
 none
 else
 k0 (v0,v1,v2,v3,v4,v5,v6,wp .i64 (v7+1),v9,v10,v11,v12,v13,v14,v15,v16,v17,v18,v19,v20,v21,())
 ) (100000000000000000000) (x)
def f64.L2(k0:vo→Option (T9))(x:zN):Option (T9) :=
 it (X:=zN) (fun rec x=>match x with
 | (v0,v1,v2,v3,v4,v5,v6,v7,v8,v9,v10,v11,v12,v13,v14,v15,v16,v17,v18,v19,v20,_) =>
 bif decide (v7<wp .i64 (v6+v4)) then
 f64.L1 rec ((v0,v1,v2,v3,v4,v5,v6,v7,v5,v8,v9,v10,v11,v12,v13,v14,v15,v16,v17,v18,v19,v20,()))
 else
 bif ae v2 6 then
 bif ae v2 6 then
 k0 (v0,v1,wp .i64 (v2+1),v8,if tn v2=0/1 then wp .i64 (v5+wp .i64 (Int.tdiv v3 2)) else v9,if tn v2=(0+1)/1 then wp .i64 (v5+wp .i64 (Int.tdiv v3 2)) else v10,if tn v2=(0+1+1)/1 then wp .i64 (v5+wp .i64 (Int.tdiv v3 2)) else v11,if tn v2=(0+1+1+1)/1 then wp .i64 (v5+wp .i64 (Int.tdiv v3 2)) else v12,if tn v2=(0+1+1+1+1)/1 then wp .i64 (v5+wp .i64 (Int.tdiv v3 2)) else v13,if tn v2=(0+1+1+1+1+1)/1 then wp .i64 (v5+wp .i64 (Int.tdiv v3 2)) else v14,if tn v2=0/1 then wp .i64 (v6+wp .i64 (Int.tdiv v4 2)) else v15,if tn v2=(0+1)/1 then wp .i64 (v6+wp .i64 (Int.tdiv v4 2)) else v16,if tn v2=(0+1+1)/1 then wp .i64 (v6+wp .i64 (Int.tdiv v4 2)) else v17,if tn v2=(0+1+1+1)/1 then wp .i64 (v6+wp .i64 (Int.tdiv v4 2)) else v18,if tn v2=(0+1+1+1+1)/1 then wp .i64 (v6+wp .i64 (Int.tdiv v4 2)) else v19,if tn v2=(0+1+1+1+1+1)/1 then wp .i64 (v6+wp .i64 (Int.tdiv v4 2)) else v20,())
 else
 none
 else
 none
 ) (100000000000000000000) (x)
def f64.L3(k0:vo→Option (T9))(x:C8):Option (T9) :=
 it (X:=C8) (fun rec x=>match x with
 | (v0,v1,v2,v3,v4,v5,v6,v7,v8,v9,v10,v11,v12,v13,v14,v15,v16,v17,v18,v19,_) =>
 ob (α:=C8⊕T9) (
 bif ae v2 6 then
 bif v3 !=gd [v8,v9,v10,v11,v12,v13] (tn v2) 0 then
 some (il (v0,v1,v2,v3,v4,v5,v6,v7,v8,v9,v10,v11,v12,v13,v14,v15,v16,v17,v18,v19,()))
 else
 bif ae v2 6 then
 bif v4 !=gd [v14,v15,v16,v17,v18,v19] (tn v2) 0 then
 some (il (v0,v1,v2,v3,v4,v5,v6,v7,v8,v9,v10,v11,v12,v13,v14,v15,v16,v17,v18,v19,()))
 else
 ob (k0 (v0,v1,wp .i64 (v2+1),v7,v8,v9,v10,v11,v12,v13,v14,v15,v16,v17,v18,v19,())) fun y0 =>
 some (ir y0)
 else
 none
 else
 none
 ) fun y1 =>
 el (fun y2=>match y2 with
 | (u2_0,u2_1,u2_2,u2_3,u2_4,u2_5,u2_6,u2_7,u2_8,u2_9,u2_10,u2_11,u2_12,u2_13,u2_14,u2_15,u2_16,u2_17,u2_18,u2_19,_) =>
 ob (α:=C8⊕T9) (
 bif u2_6 then
 bif ae u2_2 6 then
 bif u2_3 !=gd [u2_8,u2_9,u2_10,u2_11,u2_12,u2_13] (tn u2_2) 0 then
 bif ae u2_2 6 then
 ob (f121 u2_3 (gd [u2_8,u2_9,u2_10,u2_11,u2_12,u2_13] (tn u2_2) 0)) fun y3 =>
 some (il (u2_0,u2_1,u2_2,y3.1,u2_4,u2_5,u2_6,u2_7,u2_8,u2_9,u2_10,u2_11,u2_12,u2_13,u2_14,u2_15,u2_16,u2_17,u2_18,u2_19,()))
 else
 none
 else
 bif !u2_6 then
 bif ae u2_2 6 then
 bif u2_4==gd [u2_14,u2_15,u2_16,u2_17,u2_18,u2_19] (tn u2_2) 0 then
 bif ae u2_2 6 then
 ob (f121 u2_3 (gd [u2_8,u2_9,u2_10,u2_11,u2_12,u2_13] (tn u2_2) 0)) fun y4 =>
 some (il (u2_0,u2_1,u2_2,y4.1,u2_4,u2_5,u2_6,u2_7,u2_8,u2_9,u2_10,u2_11,u2_12,u2_13,u2_14,u2_15,u2_16,u2_17,u2_18,u2_19,()))
 else
 none
 else
 bif ae u2_2 6 then
 ob (f121 u2_4 (gd [u2_14,u2_15,u2_16,u2_17,u2_18,u2_19] (tn u2_2) 0)) fun y5 =>
 some (il (u2_0,u2_1,u2_2,u2_3,y5.1,u2_5,u2_6,u2_7,u2_8,u2_9,u2_10,u2_11,u2_12,u2_13,u2_14,u2_15,u2_16,u2_17,u2_18,u2_19,()))
 else
 none
 else
 none
 else
 bif ae u2_2 6 then
 ob (f121 u2_4 (gd [u2_14,u2_15,u2_16,u2_17,u2_18,u2_19] (tn u2_2) 0)) fun y6 =>
 some (il (u2_0,u2_1,u2_2,u2_3,y6.1,u2_5,u2_6,u2_7,u2_8,u2_9,u2_10,u2_11,u2_12,u2_13,u2_14,u2_15,u2_16,u2_17,u2_18,u2_19,()))
 else
 none
 else
 none
 else
 bif !u2_6 then
 bif ae u2_2 6 then
 bif u2_4==gd [u2_14,u2_15,u2_16,u2_17,u2_18,u2_19] (tn u2_2) 0 then
 bif ae u2_2 6 then
 ob (f121 u2_3 (gd [u2_8,u2_9,u2_10,u2_11,u2_12,u2_13] (tn u2_2) 0)) fun y7 =>
 some (il (u2_0,u2_1,u2_2,y7.1,u2_4,u2_5,u2_6,u2_7,u2_8,u2_9,u2_10,u2_11,u2_12,u2_13,u2_14,u2_15,u2_16,u2_17,u2_18,u2_19,()))
 else
 none
 else
 bif ae u2_2 6 then
 ob (f121 u2_4 (gd [u2_14,u2_15,u2_16,u2_17,u2_18,u2_19] (tn u2_2) 0)) fun y8 =>
 some (il (u2_0,u2_1,u2_2,u2_3,y8.1,u2_5,u2_6,u2_7,u2_8,u2_9,u2_10,u2_11,u2_12,u2_13,u2_14,u2_15,u2_16,u2_17,u2_18,u2_19,()))
 else
 none
 else
 none
 else
 bif ae u2_2 6 then
 ob (f121 u2_4 (gd [u2_14,u2_15,u2_16,u2_17,u2_18,u2_19] (tn u2_2) 0)) fun y9 =>
 some (il (u2_0,u2_1,u2_2,u2_3,y9.1,u2_5,u2_6,u2_7,u2_8,u2_9,u2_10,u2_11,u2_12,u2_13,u2_14,u2_15,u2_16,u2_17,u2_18,u2_19,()))
 else
 none
 ) fun y10 =>
 el (fun y11=>match y11 with
 | (u11_0,u11_1,u11_2,u11_3,u11_4,u11_5,u11_6,u11_7,u11_8,u11_9,u11_10,u11_11,u11_12,u11_13,u11_14,u11_15,u11_16,u11_17,u11_18,u11_19,_) =>
 ob (f120 u11_3 u11_4 u11_5 u11_7) fun y12 =>
 rec (u11_0,u11_1,u11_2,u11_3,u11_4,y12.1,u11_6,y12.2.1,u11_8,u11_9,u11_10,u11_11,u11_12,u11_13,u11_14,u11_15,u11_16,u11_17,u11_18,u11_19,())
 ) (fun z13 =>
 some (z13)
 ) (y10)
 ) (fun z14 =>
 some (z14)
 ) (y1)
 ) (100000000000000000000) (x)
def f64.L4(x:Int×Int×Int×Bool×oN):Option (Int×Int×Bool×LZ×LZ×Unit⊕T9) :=
 it (X:=Int×Int×Int×Bool×oN) (fun rec x=>match x with
 | (v0,v1,v2,v3,v4,v5,v6,_) =>
 bif decide (v4<384) then
 bif !v3 then
 bif ae v4 (ln v5) then
 bif gd v5 (tn v4) 0==1 then
 bif ae v4 (ln v6) then
 bif ae v2 (ln v6) then
 bif gd v6 (tn v4) 0==wp .i64 (Int.tdiv (gd v6 (tn v2) 0) 2) then
 bif ae v4 (ln v5) then
 rec (v0,v1,v2,true,wp .i64 (v4+1),ls v5 (tn v4) 5,v6,())
 else
 none
 else
 rec (v0,v1,v2,v3,wp .i64 (v4+1),v5,v6,())
 else
 none
 else
 none
 else
 rec (v0,v1,v2,v3,wp .i64 (v4+1),v5,v6,())
 else
 none
 else
 some (il (v0,v1,v3,v5,v6,()))
 else
 some (il (v0,v1,v3,v5,v6,()))
 ) (100000000000000000000) (x)
def f64.L5(x:Hw):Option (Int×Int×Bool×xt⊕T9) :=
 it (X:=Hw) (fun rec x=>match x with
 | (v0,v1,v2,v3,v4,v5,v6,v7,_) =>
 bif decide (v3≤wp .i64 (v1+1)) then
 ob (f123 v4 v5 4 v6 v0 v1 (wp .i64 (7+v3))) fun y0 =>
 bif decide (y0.1<0) then
 some (il (v0,v1,v2,v4,v5,v7,()))
 else
 bif ae y0.1 (ln v6) then
 ob (f119 v0 v1 (wp .i64 (16+v3)) 1 (aX (wp .i64 (v1+1)) 3)) fun y1 =>
 ob (f81 (wp .i64 (2+y1.1))) fun y2 =>
 bif decide (ln v7+1≤aB 88) then
 rec (v0,v1,v2,wp .i64 (v3+1),v4,v5,ls v6 (tn y0.1) true,v7++[(y2.1,y2.2.1,y2.2.2.1,Int.tmod y0.1 24,wp .i64 (Int.tdiv y0.1 24),y2.2.2.2.2.2.1,y2.2.2.2.2.2.2.1,y2.2.2.2.2.2.2.2.1,y2.2.2.2.2.2.2.2.2.1,y2.2.2.2.2.2.2.2.2.2.1,y2.2.2.2.2.2.2.2.2.2.2.1)],())
 else
 none
 else
 none
 else
 some (il (v0,v1,v2,v4,v5,v7,()))
 ) (100000000000000000000) (x)
def f64.L6(x:Int×Int×Bool×Int×T9):Option (T9⊕T9) :=
 it (X:=Int×Int×Bool×Int×T9) (fun rec x=>match x with
 | (v0,v1,v2,v3,v4,v5,v6,_) =>
 bif decide (v3<3) then
 bif v2 then
 ob (f119 v0 v1 (wp .i64 (50+v3)) 1 3) fun y0 =>
 bif decide (ln v6+1≤aB 32) then
 rec (v0,v1,v2,wp .i64 (v3+1),v4,v5,v6++[(wp .i64 (1+y0.1),4,v3,0)],())
 else
 none
 else
 some (il (v4,v5,v6,()))
 else
 some (il (v4,v5,v6,()))
 ) (100000000000000000000) (x)
def f64.L7(x:G8):Option (T9) :=
 it (X:=G8) (fun rec x=>match x with
 | (v0,v1,v2,v3,v4,v5,v6,v7,v8,_) =>
 bif decide (v3<4) then
 ob (f123 v4 v5 0 v6 v0 v1 (wp .i64 (40+v3))) fun y0 =>
 bif decide (y0.1<0) then
 rec (v0,v1,v2,wp .i64 (v3+1),v4,v5,v6,v7,v8,())
 else
 bif ae y0.1 (ln v6) then
 ob (f119 v0 v1 (wp .i64 (40+v3)) 1 4) fun y1 =>
 bif decide (ln v8+1≤aB 32) then
 rec (v0,v1,v2,wp .i64 (v3+1),v4,v5,ls v6 (tn y0.1) true,v7,v8++[(wp .i64 (1+y1.1),1,Int.tmod y0.1 24,wp .i64 (Int.tdiv y0.1 24))],())
 else
 none
 else
 none
 else
 ob (α:=T9⊕T9) (
 f64.L6 ((v0,v1,v2,0,v4,v7,v8,()))
 ) fun y2 =>
 el (fun y3 =>
 some ((y3.1,y3.2.1,y3.2.2.1,()))
 ) (fun z4 =>
 some (z4)
 ) (y2)
 ) (100000000000000000000) (x)
def f64.L8(x:Am):Option (T9) :=
 it (X:=Am) (fun rec x =>
 bif decide (x.2.2.2.1<384) then
 bif ae x.2.2.2.1 (ln x.2.2.2.2.2.1) then
 bif ae x.2.2.1 (ln x.2.2.2.2.2.1) then
 bif decide (gd x.2.2.2.2.2.1 (tn x.2.2.2.1) 0>gd x.2.2.2.2.2.1 (tn x.2.2.1) 0) then
 rec (x.1,x.2.1,x.2.2.2.1,wp .i64 (x.2.2.2.1+1),x.2.2.2.2.1,x.2.2.2.2.2.1,())
 else
 rec (x.1,x.2.1,x.2.2.1,wp .i64 (x.2.2.2.1+1),x.2.2.2.2.1,x.2.2.2.2.2.1,())
 else
 none
 else
 none
 else
 bif ae x.2.2.1 (ln x.2.2.2.2.1) then
 ob (α:=Int×Int×Bool×LZ×LZ×Unit⊕T9) (
 ob (f119 x.1 x.2.1 6 0 2) fun y0 =>
 bif y0.1==0 then
 f64.L4 ((x.1,x.2.1,x.2.2.1,false,0,ls x.2.2.2.2.1 (tn x.2.2.1) 4,x.2.2.2.2.2.1,()))
 else
 some (il (x.1,x.2.1,false,ls x.2.2.2.2.1 (tn x.2.2.1) 4,x.2.2.2.2.2.1,()))
 ) fun y1 =>
 el (fun y2 =>
 ob (α:=Int×Int×Bool×xt⊕T9) (
 f64.L5 ((y2.1,y2.2.1,y2.2.2.1,0,y2.2.2.2.1,y2.2.2.2.2.1,rp 384 false,[],()))
 ) fun y3 =>
 el (fun y4 =>
 f64.L7 ((y4.1,y4.2.1,y4.2.2.1,0,y4.2.2.2.1,y4.2.2.2.2.1,rp 384 false,y4.2.2.2.2.2.1,[],()))
 ) (fun z5 =>
 some (z5)
 ) (y3)
 ) (fun z6 =>
 some (z6)
 ) (y1)
 else
 none
 ) (100000000000000000000) (x)
def f64.L9(x:vo):Option (T9) :=
 it (X:=vo) (fun rec x=>match x with
 | (v0,v1,v2,v3,v4,v5,v6,v7,v8,v9,v10,v11,v12,v13,v14,v15,_) =>
 bif decide (v2<6) then
 bif ae (wp .i64 (v2-1)) 6 then
 bif ae (wp .i64 (v2-1)) 6 then
 ob (f120 (gd [v4,v5,v6,v7,v8,v9] (tn (wp .i64 (v2-1))) 0) (gd [v10,v11,v12,v13,v14,v15] (tn (wp .i64 (v2-1))) 0) false v3) fun y0 =>
 ob (f119 v0 v1 v2 4 2) fun y1 =>
 f64.L3 rec ((v0,v1,v2,gd [v4,v5,v6,v7,v8,v9] (tn (wp .i64 (v2-1))) 0,gd [v10,v11,v12,v13,v14,v15] (tn (wp .i64 (v2-1))) 0,y0.1,y1.1==0,y0.2.1,v4,v5,v6,v7,v8,v9,v10,v11,v12,v13,v14,v15,()))
 else
 none
 else
 none
 else
 bif ae (wp .i64 (wp .i64 (v10*24)+v4)) (ln v3) then
 ob (f122 (ls v3 (tn (wp .i64 (wp .i64 (v10*24)+v4))) 3) [] [wp .i64 (wp .i64 (v10*24)+v4)]) fun y2 =>
 f64.L8 ((v0,v1,wp .i64 (wp .i64 (v10*24)+v4),0,ls v3 (tn (wp .i64 (wp .i64 (v10*24)+v4))) 3,y2.1,()))
 else
 none
 ) (100000000000000000000) (x)
def f64.FG(x:vo):Option (T9) :=
 it (X:=vo) (fun rec x=>match x with
 | (v0,v1,v2,v3,v4,v5,v6,v7,v8,v9,v10,v11,v12,v13,v14,v15,_) =>
 bif decide (v2<6) then
 ob (f119 v0 v1 v2 0 5) fun y0 =>
 ob (f119 v0 v1 v2 1 4) fun y1 =>
 ob (f119 v0 v1 v2 2 (wp .i64 (23-wp .i64 (3+y0.1)))) fun y2 =>
 ob (f119 v0 v1 v2 3 (wp .i64 (15-wp .i64 (2+y1.1)))) fun y3 =>
 f64.L2 rec ((v0,v1,v2,wp .i64 (3+y0.1),wp .i64 (2+y1.1),wp .i64 (1+y2.1),wp .i64 (1+y3.1),wp .i64 (1+y3.1),v3,v4,v5,v6,v7,v8,v9,v10,v11,v12,v13,v14,v15,()))
 else
 f64.L9 ((v0,v1,1,v3,v4,v5,v6,v7,v8,v9,v10,v11,v12,v13,v14,v15,()))
 ) (100000000000000000000) (x)
def f64(a0 a1:Int):Option (T9) :=
 f64.FG ((a0,a1,0,rp 384 0,0,0,0,0,0,0,0,0,0,0,0,0,()))
def f64.S:ah:=⟨⟨[(0,n6),(1,n6)],[]⟩,[⟨[(0,.agg [.own 0,.own 1,.own 2])],[(0,a8),(1,aE),(2,aI)]⟩],[],fun x=>f64 x.1 x.2.1⟩
theorem f64.sound:SO 64 f64.S:=so [b f119.sound,b f120.sound,b f121.sound,b f122.sound,b f123.sound,b f81.sound] n0 [(24,⟨[(0,n6),(1,n6),(4,pt 0),(5,ow 1),(6,pt 2),(7,pt 3),(15,n6),(16,n6),(17,n6),(18,nb),(19,nb)],[(0,.box [.nils,.nils,.nils]),(1,a8),(2,.box [i6,i6,i6,i6,i6,i6]),(3,.box [i6,i6,i6,i6,i6,i6])]⟩),(27,⟨[(0,n6),(1,n6),(4,pt 0),(5,ow 1),(6,pt 2),(7,pt 3),(15,n6),(16,n6),(17,n6),(18,nb),(19,nb)],[(0,.box [.nils,.nils,.nils]),(1,a8),(2,.box [i6,i6,i6,i6,i6,i6]),(3,.box [i6,i6,i6,i6,i6,i6])]⟩),(46,⟨[(0,n6),(1,n6),(4,pt 0),(5,ow 1),(21,ow 2),(24,nb)],[(0,.box [.nils,.nils,.nils]),(1,a8),(2,.arr (.int .i64))]⟩),(57,⟨[(0,n6),(1,n6),(4,pt 0),(5,ow 1),(21,ow 2),(24,nb),(26,pt 3)],[(0,.box [.nils,.nils,.nils]),(1,a8),(2,.arr (.int .i64)),(3,.box [.own 1,.own 4,.nils]),(4,aE)]⟩),(69,⟨[(4,pt 0),(26,pt 1)],[(0,.box [.nils,.nils,.nils]),(1,.box [.own 2,.own 3,.own 4]),(2,a8),(3,aE),(4,aI)]⟩)] [(5,⟨[(0,n6),(1,n6),(4,pt 0),(5,ow 1),(6,pt 2),(7,pt 3),(8,n6)],[(0,.box [.nils,.nils,.nils]),(1,a8),(2,.box [i6,i6,i6,i6,i6,i6]),(3,.box [i6,i6,i6,i6,i6,i6])]⟩),(10,⟨[(0,n6),(1,n6),(4,pt 0),(5,ow 1),(6,pt 2),(7,pt 3),(8,n6),(9,n6),(10,n6),(11,n6),(12,n6),(13,n6)],[(0,.box [.nils,.nils,.nils]),(1,a8),(2,.box [i6,i6,i6,i6,i6,i6]),(3,.box [i6,i6,i6,i6,i6,i6])]⟩),(13,⟨[(0,n6),(1,n6),(4,pt 0),(5,ow 1),(6,pt 2),(7,pt 3),(8,n6),(9,n6),(10,n6),(11,n6),(12,n6),(13,n6),(14,n6)],[(0,.box [.nils,.nils,.nils]),(1,a8),(2,.box [i6,i6,i6,i6,i6,i6]),(3,.box [i6,i6,i6,i6,i6,i6])]⟩),(18,⟨[(0,n6),(1,n6),(4,pt 0),(5,ow 1),(6,pt 2),(7,pt 3),(15,n6)],[(0,.box [.nils,.nils,.nils]),(1,a8),(2,.box [i6,i6,i6,i6,i6,i6]),(3,.box [i6,i6,i6,i6,i6,i6])]⟩),(23,⟨[(0,n6),(1,n6),(4,pt 0),(5,ow 1),(6,pt 2),(7,pt 3),(15,n6),(16,n6),(17,n6),(18,nb),(19,nb)],[(0,.box [.nils,.nils,.nils]),(1,a8),(2,.box [i6,i6,i6,i6,i6,i6]),(3,.box [i6,i6,i6,i6,i6,i6])]⟩),(33,⟨[(0,n6),(1,n6),(4,pt 0),(5,ow 1),(21,ow 2),(22,n6),(23,n6)],[(0,.box [.nils,.nils,.nils]),(1,a8),(2,.arr (.int .i64))]⟩),(41,⟨[(0,n6),(1,n6),(4,pt 0),(5,ow 1),(21,ow 2),(22,n6),(24,nb),(25,n6)],[(0,.box [.nils,.nils,.nils]),(1,a8),(2,.arr (.int .i64))]⟩),(49,⟨[(0,n6),(1,n6),(4,pt 0),(5,ow 1),(21,ow 2),(24,nb),(26,pt 3),(27,ow 4),(28,n6)],[(0,.box [.nils,.nils,.nils]),(1,a8),(2,.arr (.int .i64)),(3,.box [.own 1,.own 5,.nils]),(4,.arr .bool),(5,aE)]⟩),(59,⟨[(0,n6),(1,n6),(4,pt 0),(5,ow 1),(21,ow 2),(24,nb),(26,pt 3),(27,ow 4),(31,n6)],[(0,.box [.nils,.nils,.nils]),(1,a8),(2,.arr (.int .i64)),(3,.box [.own 1,.own 5,.own 6]),(4,.arr .bool),(5,aE),(6,aI)]⟩),(66,⟨[(0,n6),(1,n6),(4,pt 0),(24,nb),(26,pt 1),(33,n6)],[(0,.box [.nils,.nils,.nils]),(1,.box [.own 2,.own 3,.own 4]),(2,a8),(3,aE),(4,aI)]⟩)] [] 0 (by kernel_rfl) fun _=>by kernel_rfl
def f91.L1(x:LE×Int×T3):Option (Int×Unit) :=
 it (X:=LE×Int×T3) (fun rec x =>
 bif decide (x.2.2.2.1<(↑(ln x.1):Int)) then
 bif ae x.2.2.2.1 (ln x.1) then
 bif (gd x.1 (tn x.2.2.2.1) zE).1 !=0 then
 bif ae x.2.2.2.1 (ln x.1) then
 bif (gd x.1 (tn x.2.2.2.1) zE).2.2.2.1==x.2.1 then
 bif ae x.2.2.2.1 (ln x.1) then
 bif (gd x.1 (tn x.2.2.2.1) zE).2.2.2.2.1==x.2.2.1 then
 some ((x.2.2.2.1,()))
 else
 rec (x.1,x.2.1,x.2.2.1,wp .i64 (x.2.2.2.1+1),())
 else
 none
 else
 rec (x.1,x.2.1,x.2.2.1,wp .i64 (x.2.2.2.1+1),())
 else
 none
 else
 rec (x.1,x.2.1,x.2.2.1,wp .i64 (x.2.2.2.1+1),())
 else
 none
 else
 some ((-1,()))
 ) (100000000000000000000) (x)
def f91(a0:LE)(a1 a2:Int):Option (Int×Unit) :=
 f91.L1 ((a0,a1,a2,0,()))
def f91.S:ah:=⟨⟨[(0,rE),(1,n6),(2,n6)],[]⟩,[⟨[(0,n6)],[]⟩],[],fun(a,b,c,_)=>f91 a b c⟩
theorem f91.sound:SO 91 f91.S:=so [] n0 [] [(3,⟨[(0,rE),(1,n6),(2,n6),(7,n6)],[]⟩)] [] 0 (by kernel_rfl) fun _=>by kernel_rfl
def f133.L1(x:LE×Int×T1):Option (Unit⊕Dc) :=
 it (X:=LE×Int×T1) (fun rec x=>match x with
 | (v0,v1,v2,v3,v4,v5,v6,v7,v8,v9,v10,v11,v12,_) =>
 bif decide (v1<(↑(ln v0):Int)) then
 bif decide (v1<32) then
 bif ae v1 (ln v0) then
 bif (gd v0 (tn v1) zE).1==0 then
 bif decide (0+ln v0≤aB 88) then
 bif ae v1 (ln v0) then
 bif ae v1 (ln v0) then
 let s0:LE:=ls v0 (tn v1) (v2,Int.tmod (wp .i64 ((gd v0 (tn v1) zE).2.1+1)) 256,v4,v5,v6,v7,v8,v9,v10,v11,v12)
 some (ir (v1,0,s0,()))
 else
 none
 else
 none
 else
 none
 else
 rec (v0,wp .i64 (v1+1),v2,v3,v4,v5,v6,v7,v8,v9,v10,v11,v12,())
 else
 none
 else
 some (il ())
 else
 some (il ())
 ) (100000000000000000000) (x)
def f133(a0:LE)(a1 a2 a3 a4 a5 a6 a7 a8 a9 a10 a11:Int):Option (Dc) :=
 bif decide (a1<1) then
 some ((0,3,[],()))
 else
 bif decide (a1>4) then
 some ((0,3,[],()))
 else
 ob (α:=Unit⊕Dc) (
 f133.L1 ((a0,0,a1,a2,a3,a4,a5,a6,a7,a8,a9,a10,a11,()))
 ) fun y0 =>
 el (fun y1 =>
 some ((0,5,[],()))
 ) (fun z2 =>
 some (z2)
 ) (y0)
def f133.S:ah:=⟨⟨[(0,rE),(1,eS)],[]⟩,[⟨[(0,ow 0),(1,n6),(2,n6)],[(0,aE)]⟩],[],fun(a,b,c,d,e,f,g,h,i,j,k,l,_)=>f133 a b c d e f g h i j k l⟩
theorem f133.sound:SO 133 f133.S:=so [] n0 [(12,⟨[],[]⟩)] [(5,⟨[(0,rE),(3,pt 0),(7,n6)],[(0,bz)]⟩)] [] 0 (by kernel_rfl) fun _=>by kernel_rfl
def f83_1(a0 a1 a2 a3 a4 a5 a6 a7 a8 a9 a10:Int)(a11:LE):Option (LE×Unit) :=
 ob (f133 a11 a0 a1 a2 a3 a4 a5 a6 a7 a8 a9 a10) fun y0 =>
 bif y0.2.1 !=0 then
 some ((a11,()))
 else
 some ((y0.2.2.1,()))
def f83_1.S:ah:=⟨⟨[(0,ow 0),(1,eS)],[(0,aE)]⟩,[⟨[(0,ow 1)],[(1,aE)]⟩],[],fun(a,b,c,d,e,f,g,h,i,j,k,l,_)=>f83_1 a b c d e f g h i j k l⟩
theorem f83_1.sound:SO 83 f83_1.S:=so [b f133.sound] n0 [] [] [] 1 (by kernel_rfl) fun _=>by kernel_rfl
end
end Go.Proofs.YthdgahpomhnidaaGreat.Run

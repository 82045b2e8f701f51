import Derived.Orders
import Derived.KernelRfl
set_option autoImplicit false
namespace Go.Proofs.YthdgahpomhnidaaGreat.Mx
open Go
universe u
inductive cn where
 | int (k:IntKind) (n:Int) | bool (b:Bool) | row (l:List Int)
inductive Dyn where
 | non | mk (t:Nat) (cs:List cn)
def Dyn.is:Dyn→Nat→Bool
 | .non,_=>false
 | .mk t _,t'=>Nat.beq t t'
def Dyn.cs:Dyn→List cn
 | .non=>[]
 | .mk _ cs=>cs
def cm(cs:List cn)(j:Nat):Int :=
 match cs[j]? with
 | some (.int _ n)=>n
 | _=>0
def Bt(cs:List cn)(j:Nat):Bool :=
 match cs[j]? with
 | some (.bool b)=>b
 | _=>false
def uz(cs:List cn)(j:Nat):List Int :=
 match cs[j]? with
 | some (.row l)=>l
 | _=>[]
inductive Ty where
 | int (k:IntKind) | bool | str | row (e:Ty) | prod (a b:Ty) | ifc
 deriving DecidableEq
@[reducible] def Ty.T:Ty→Type
 | .int _=>Int
 | .bool=>Bool
 | .str=>ByteArray
 | .row e=>List e.T
 | .prod a b=>a.T×b.T
 | .ifc=>Dyn
def Ty.dh:(e:Ty)→e.T
 | .int _=>(0:Int)
 | .bool=>false
 | .str=>(⟨#[]⟩:ByteArray)
 | .row _=>[]
 | .prod a b=>(a.dh,b.dh)
 | .ifc=>Dyn.non
def Ty.size:Ty→Nat
 | .prod a b=>a.size+b.size
 | _=>1
def Ty.flat:Ty→Bool
 | .row _=>false
 | .ifc=>false
 | .prod a b=>a.flat&&b.flat
 | _=>true
inductive CV where
 | int (k:IntKind) (n:Int)
 | bool (b:Bool)
 | str (s:ByteArray)
 | fint (n:Int)
 | cint (x y:Int)
 | nilp | nilf | nili | nils
 | ptr (n off:Nat)
 | eptr (n i off:Nat)
 | aptr (n off len stride i o:Nat)
 | own (n:Nat)
 | sub (n lo hi:Nat)
 | bsub (n off len stride lo hi:Nat)
 | row (e:Ty) (l:List e.T)
 | rptr (e:Ty) (l:List e.T) (i off:Nat)
 | fn (f:Nat) (js:List Nat)
 | ifc (t:Nat) (k:IntKind) (ns:List Int)
 | dyn (d:Dyn)
 | dead
inductive AV where
 | c (x:CV)
 | agg (xs:List CV)
inductive SV where
 | v (a:AV)
 | tup (xs:List AV)
def SV.dead:SV:=.v (.c .dead)
inductive Obj where
 | box (cs:List CV)
 | arr (e:Ty) (l:List e.T)
 | bF (e:Ty) (l:List e.T)
abbrev aK:=List (Nat×Obj)
def hget:aK→Nat→Option Obj
 | [],_=>none
 | (k,o)::h,n=>Bool.casesOn (Nat.beq k n) (hget h n) (some o)
def hsetK{R:Type u}:aK→Nat→Obj→(aK→R)→R
 | [],_,_,K=>K []
 | (k,o)::h,n,o',K=>Bool.casesOn (Nat.beq k n) (hsetK h n o' fun h'=>K ((k,o)::h')) (K ((k,o')::h))
def hdelK{R:Type u}:aK→Nat→(aK→R)→R
 | [],_,K=>K []
 | (k,o)::h,n,K=>Bool.casesOn (Nat.beq k n) (hdelK h n fun h'=>K ((k,o)::h')) (hdelK h n K)
def CV.force{R:Type u}(c:CV)(K:CV→R):R :=
 match c with
 | .int k n=>K (.int k n) | .bool b=>K (.bool b) | .str s=>K (.str s) | .fint n=>K (.fint n) | .cint x y=>K (.cint x y)
 | .nilp=>K .nilp | .nilf=>K .nilf | .nili=>K .nili | .nils=>K .nils
 | .ptr n o=>K (.ptr n o) | .eptr n i o=>K (.eptr n i o) | .aptr n a b c d e=>K (.aptr n a b c d e) | .own n=>K (.own n) | .sub n a b=>K (.sub n a b) | .bsub n a b c d e=>K (.bsub n a b c d e)
 | .row e l=>K (.row e l) | .rptr e l i o=>K (.rptr e l i o) | .fn f js=>K (.fn f js) | .ifc t k ns=>K (.ifc t k ns) | .dyn d=>K (.dyn d) | .dead=>K .dead
def forceCs{R:Type u}:List CV→(List CV→R)→R
 | [],K=>K []
 | c::cs,K=>c.force fun c'=>forceCs cs fun cs'=>K (c'::cs')
def AV.force{R:Type u}(a:AV)(K:AV→R):R :=
 match a with
 | .c x=>x.force fun x'=>K (.c x')
 | .agg xs=>forceCs xs fun xs'=>K (.agg xs')
def forceAs{R:Type u}:List AV→(List AV→R)→R
 | [],K=>K []
 | c::cs,K=>c.force fun c'=>forceAs cs fun cs'=>K (c'::cs')
def SV.force{R:Type u}(a:SV)(K:SV→R):R :=
 match a with
 | .v x=>x.force fun x'=>K (.v x')
 | .tup xs=>forceAs xs fun xs'=>K (.tup xs')
def Obj.force{R:Type u}(o:Obj)(K:Obj→R):R :=
 match o with
 | .box cs=>forceCs cs fun cs'=>K (.box cs')
 | .arr e l=>K (.arr e l)
 | .bF e l=>K (.bF e l)
def getS:List SV→Nat→SV
 | [],_=>.dead
 | x::_,0=>x
 | _::xs,n+1=>getS xs n
def setK{R:Type u}:List SV→Nat→SV→(List SV→R)→R
 | [],_,_,K=>K []
 | _::xs,0,v,K=>K (v::xs)
 | x::xs,n+1,v,K=>setK xs n v fun ys=>K (x::ys)
def Ty.enc:(e:Ty)→e.T→List CV→List CV
 | .int k,n,r=>.int k n::r
 | .bool,b,r=>.bool b::r
 | .str,s,r=>.str s::r
 | .row e,l,r=>.row e l::r
 | .prod a b,x,r=>a.enc x.1 (b.enc x.2 r)
 | .ifc,d,r=>.dyn d::r
def decInt(k:IntKind):List CV→Option (Int×List CV)
 | .int k' n::r=>if k=k' then some (n,r) else none
 | _=>none
def decBool:List CV→Option (Bool×List CV)
 | .bool b::r=>some (b,r)
 | _=>none
def decStr:List CV→Option (ByteArray×List CV)
 | .str b::r=>some (b,r)
 | _=>none
def decRow(e:Ty):List CV→Option (List e.T×List CV)
 | .row e' l::r=>if h:e'=e then some (h▸l,r) else none
 | .nils::r=>some ([],r)
 | _=>none
def decDyn:List CV→Option (Dyn×List CV)
 | .dyn d::r=>some (d,r)
 | _=>none
def Ty.dec:(e:Ty)→List CV→Option (e.T×List CV)
 | .int k,cs=>decInt k cs
 | .bool,cs=>decBool cs
 | .str,cs=>decStr cs
 | .row e,cs=>decRow e cs
 | .ifc,cs=>decDyn cs
 | .prod a b,cs =>
  match a.dec cs with
  | some (x,r)=>match b.dec r with
   | some (y,r')=>some ((x,y),r')
   | none=>none
  | none=>none
def Ty.decL(e:Ty):Nat→List CV→Option (List e.T)
 | 0,[]=>some []
 | 0,_::_=>none
 | n+1,cs=>match e.dec cs with
  | some (x,r)=>match e.decL n r with
   | some l=>some (x::l)
   | none=>none
  | none=>none
structure FP where
 reads:List Nat
 writes:List Nat
inductive MA (α:Type):Type 1 where
 | pure (a:α)
 | fail
 | get (n:Nat) (k:Obj→MA α)
 | set (n:Nat) (o:Obj) (k:MA α)
 | del (n:Nat) (k:MA α)
 | new (sub:Nat) (o:Obj) (k:MA α)
 | base (k:Nat→MA α)
 | cond (b:Bool) (t e:MA α)
 | bindO {β:Type} (x:Option β) (k:β→MA α)
 | sum {β γ:Type} (x:β⊕γ) (k:β→MA α) (l:γ→MA α)
def MA.bind{α β:Type}:MA α→(α→MA β)→MA β
 | .pure a,f=>f a
 | .fail,_=>.fail
 | .get n k,f=>.get n fun o=>(k o).bind f
 | .set n o k,f=>.set n o (k.bind f)
 | .del n k,f=>.del n (k.bind f)
 | .new s o k,f=>.new s o (k.bind f)
 | .base k,f=>.base fun b=>(k b).bind f
 | .cond b t e,f=>.cond b (t.bind f) (e.bind f)
 | .bindO x k,f=>.bindO x fun y=>(k y).bind f
 | .sum x k l,f=>.sum x (fun y=>(k y).bind f) (fun y=>(l y).bind f)
def keys:Nat:=16
def MA.run{α A:Type}:MA α→Nat→aK→FP→(α→aK→FP→Option A)→Option A
 | .pure a,_,h,fp,K=>K a h fp
 | .fail,_,_,_,_=>none
 | .get n k,b,h,fp,K=>match hget h n with
  | some o=>(k o).run b h ⟨n::fp.reads,fp.writes⟩ K
  | none=>none
 | .set n o k,b,h,fp,K=>match hget h n with
  | some _=>hsetK h n o fun h'=>k.run b h' ⟨fp.reads,n::fp.writes⟩ K
  | none=>none
 | .del n k,b,h,fp,K=>match hget h n with
  | some _=>hdelK h n fun h'=>k.run b h' ⟨fp.reads,n::fp.writes⟩ K
  | none=>none
 | .new s o k,b,h,fp,K=>match hget h (b+s) with
  | some _=>none
  | none=>Bool.casesOn (Nat.blt s keys) none (k.run b ((b+s,o)::h) ⟨fp.reads,(b+s)::fp.writes⟩ K)
 | .base k,b,h,fp,K=>(k b).run b h fp K
 | .cond c t e,b,h,fp,K=>Bool.casesOn c (e.run b h fp K) (t.run b h fp K)
 | .bindO x k,b,h,fp,K=>x.bind fun y=>(k y).run b h fp K
 | .sum x k l,b,h,fp,K=>Sum.elim (fun y=>(k y).run b h fp K) (fun y=>(l y).run b h fp K) x
def ret(c:CV):MA SV:=.pure (.v (.c c))
inductive UD where
 | int (k:IntKind) | bool | str | flt (k:FloatKind) | cpx (k:FloatKind)
 | slice (e:Nat) | arr (n e:Nat) | struct (fs:List (Nat×Nat)) | ptr (e:Nat) | func | iface | tuple
structure TI where
 bD:UD
 size:Nat
 bytes:Nat
 zero:List CV
 ty:Option Ty
def TI.agg(i:TI):Bool :=
 match i.bD with
 | .struct _ | .arr _ _=>true
 | _=>false
def tget:List (Nat×TI)→Nat→Option TI
 | [],_=>none
 | (k,o)::h,n=>Bool.casesOn (Nat.beq k n) (tget h n) (some o)
inductive CF where
 | int (k:IntKind) | bool | str | fint | cint
 | row (e:Ty)
 | nilp | nilf | nili | nils
 | own (j:Nat)
 | ptr (j off:Nat)
 | fn (f:Nat) (js:List Nat)
 | bptr (e:Ty)
 | eptr (j off:Nat)
 | dyn
 | dead
def CF.P:CF→Type→Type
 | .int _,α=>Int×α
 | .bool,α=>Bool×α
 | .str,α=>ByteArray×α
 | .fint,α=>Int×α
 | .cint,α=>Int×Int×α
 | .row e,α=>List e.T×α
 | .bptr e,α=>e.T×α
 | .eptr _ _,α=>Nat×α
 | .dyn,α=>Dyn×α
 | _,α=>α
def vq:List CF→Type→Type
 | [],α=>α
 | c::cs,α=>c.P (vq cs α)
def CF.bZ{α:Type}{R:Type u}:(c:CF)→c.P α→(CV→α→R)→R
 | .int k,x,K=>K (.int k x.1) x.2
 | .bool,x,K=>K (.bool x.1) x.2
 | .str,x,K=>K (.str x.1) x.2
 | .fint,x,K=>K (.fint x.1) x.2
 | .cint,x,K=>K (.cint x.1 x.2.1) x.2.2
 | .row e,x,K=>K (.row e x.1) x.2
 | .nilp,x,K=>K .nilp x
 | .nilf,x,K=>K .nilf x
 | .nili,x,K=>K .nili x
 | .nils,x,K=>K .nils x
 | .own j,x,K=>K (.own j) x
 | .ptr j off,x,K=>K (.ptr j off) x
 | .fn f js,x,K=>K (.fn f js) x
 | .bptr e,x,K=>K (.rptr e [x.1] 0 0) x.2
 | .eptr j off,x,K=>K (.eptr j x.1 off) x.2
 | .dyn,x,K=>K (.dyn x.1) x.2
 | .dead,x,K=>K .dead x
def j9{α:Type}{R:Type u}:(cs:List CF)→vq cs α→(List CV→α→R)→R
 | [],x,K=>K [] x
 | c::cs,x,K=>c.bZ x fun v y=>j9 cs y fun vs z=>K (v::vs) z
inductive AF where
 | c (x:CF)
 | agg (xs:List CF)
def AF.P:AF→Type→Type
 | .c x,α=>x.P α
 | .agg xs,α=>vq xs α
def AF.bZ{α:Type}{R:Type u}:(a:AF)→a.P α→(AV→α→R)→R
 | .c x,v,K=>x.bZ v fun y z=>K (.c y) z
 | .agg xs,v,K=>j9 xs v fun y z=>K (.agg y) z
inductive OF where
 | box (cs:List CF)
 | arr (e:Ty)
def OF.P:OF→Type→Type
 | .box cs,α=>vq cs α
 | .arr e,α=>List e.T×α
def OF.bZ{α:Type}{R:Type u}:(o:OF)→o.P α→(Obj→α→R)→R
 | .box cs,x,K=>j9 cs x fun vs y=>K (.box vs) y
 | .arr e,x,K=>K (.arr e x.1) x.2
def xd:List (Nat×AF)→Type→Type
 | [],α=>α
 | s::ss,α=>s.2.P (xd ss α)
def xF:List (Nat×OF)→Type→Type
 | [],α=>α
 | s::ss,α=>s.2.P (xF ss α)
def lJ{α:Type}{R:Type u}:(ss:List (Nat×AF))→xd ss α→(List (Nat×AV)→α→R)→R
 | [],x,K=>K [] x
 | s::ss,x,K=>s.2.bZ x fun a y=>lJ ss y fun as z=>K ((s.1,a)::as) z
def jn{α:Type}{R:Type u}:(ss:List (Nat×OF))→xF ss α→(aK→α→R)→R
 | [],x,K=>K [] x
 | s::ss,x,K=>s.2.bZ x fun o y=>jn ss y fun os z=>K ((s.1,o)::os) z
structure Shape where
 sl:List (Nat×AF)
 ob:List (Nat×OF)
def Shape.X(s:Shape):Type:=xd s.sl (xF s.ob Unit)
def Shape.bZ{R:Type u}(s:Shape)(x:s.X)(K:List (Nat×AV)→aK→R):R :=
 lJ s.sl x fun as y=>jn s.ob y fun h _=>K as h
structure DS where
 ax:List (Nat×Option Nat)
 cB:List Nat
def aget:List (Nat×Option Nat)→Nat→Option (Option Nat)
 | [],_=>none
 | (k,o)::h,n=>Bool.casesOn (Nat.beq k n) (aget h n) (some o)
def ahas:List (Nat×Option Nat)→Nat→Bool
 | [],_=>false
 | (_,some k)::h,n=>Bool.casesOn (Nat.beq k n) (ahas h n) true
 | (_,none)::h,n=>ahas h n
def bindKey{B:Type u}(d:DS)(j n:Nat)(K:DS→Option B):Option B :=
 match aget d.ax j with
 | some (some m)=>Bool.casesOn (Nat.beq m n) none (K d)
 | some none=>none
 | none=>Bool.casesOn (ahas d.ax n) (K ⟨(j,some n)::d.ax,d.cB⟩) none
def lU{B:Type u}(d:DS):List Nat→List Nat→(DS→Option B)→Option B
 | [],[],K=>K d
 | j::js,n::ns,K=>bindKey d j n fun d'=>lU d' js ns K
 | _,_,_=>none
def rowOf(h:Nat→Option Obj)(e:Ty)(n:Nat):Option (List e.T) :=
 match h n with
 | some (.arr e' l)=>if q:e'=e then some (q▸l) else none
 | some (.bF e' l)=>if q:e'=e then some (q▸l) else none
 | _=>none
def cutCs:List CV→Nat→Nat→Option (List CV)
 | _,0,0=>some []
 | [],_,_=>none
 | c::cs,0,n+1=>(cutCs cs 0 n).map fun r=>c::r
 | _::cs,o+1,n=>cutCs cs o n
def bsubOf(h:Nat→Option Obj)(e:Ty)(n off len stride lo hi:Nat):Option (List e.T) :=
 match h n with
 | some (.box cs)=>match cutCs cs off (len*e.size) with
  | some l=>match e.decL len l with
   | some q=>Bool.casesOn (Nat.beq stride e.size) none (some ((q.take hi).drop lo))
   | none=>none
  | none=>none
 | _=>none
def thawC(h:Nat→Option Obj):CV→Option (CV×List Nat)
 | .own k=>match h k with
  | some (.arr e l)=>some (.row e l,[k])
  | some (.bF e l)=>some (.row e l,[k])
  | _=>none
 | .sub k lo hi=>match h k with
  | some (.arr e l)=>some (.row e ((l.take hi).drop lo),[k])
  | some (.bF e l)=>some (.row e ((l.take hi).drop lo),[k])
  | _=>none
 | .int k n=>some (.int k n,[])
 | .bool b=>some (.bool b,[])
 | .str s=>some (.str s,[])
 | .row e l=>some (.row e l,[])
 | .nils=>some (.nils,[])
 | _=>none
def thawCs(h:Nat→Option Obj):List CV→Option (List CV×List Nat)
 | []=>some ([],[])
 | c::cs=>match thawC h c with
  | some (c',ns)=>match thawCs h cs with
   | some (cs',ms)=>some (c'::cs',ns++ms)
   | none=>none
  | none=>none
def boxOf(h:Nat→Option Obj)(e:Ty)(n:Nat):Option (e.T×List Nat) :=
 match h n with
 | some (.box cs)=>match thawCs h cs with
  | some (cs',ns)=>match e.dec cs' with
   | some (x,[])=>some (x,ns)
   | _=>none
  | none=>none
 | _=>none
def CF.decK{α:Type}{R:Type u}(h:Nat→Option Obj)(d:DS):(c:CF)→CV→(DS→(α→c.P α)→Option R)→Option R
 | .int k,.int k' n,K=>if k=k' then K d fun y=>(n,y) else none
 | .bool,.bool b,K=>K d fun y=>(b,y)
 | .str,.str b,K=>K d fun y=>(b,y)
 | .fint,.fint n,K=>K d fun y=>(n,y)
 | .cint,.cint a b,K=>K d fun y=>(a,b,y)
 | .row e,.row e' l,K=>if q:e'=e then K d fun y=>(q▸l,y) else none
 | .row e,.nils,K=>K d fun y=>(([]:List e.T),y)
 | .row e,.bsub n off len stride lo hi,K=>match bsubOf h e n off len stride lo hi with
  | some l=>K ⟨d.ax,n::d.cB⟩ fun y=>(l,y)
  | none=>none
 | .row e,.own n,K=>match rowOf h e n with
  | some l=>K ⟨d.ax,n::d.cB⟩ fun y=>(l,y)
  | none=>none
 | .row e,.sub n lo hi,K=>match rowOf h e n with
  | some l=>K ⟨d.ax,n::d.cB⟩ fun y=>((l.take hi).drop lo,y)
  | none=>none
 | .nilp,.nilp,K=>K d id
 | .nilf,.nilf,K=>K d id
 | .nili,.nili,K=>K d id
 | .nils,.nils,K=>K d id
 | .own j,.own n,K=>bindKey d j n fun d'=>K d' id
 | .own j,.nils,K=>match aget d.ax j with
  | none=>K ⟨(j,none)::d.ax,d.cB⟩ id
  | some _=>none
 | .ptr j off,.ptr n off',K=>Bool.casesOn (Nat.beq off off') none (bindKey d j n fun d'=>K d' id)
 | .eptr j off,.eptr n i off',K=>Bool.casesOn (Nat.beq off off') none (bindKey d j n fun d'=>K d' fun y=>(i,y))
 | .fn f js,.fn f' ns,K=>Bool.casesOn (Nat.beq f f') none (lU d js ns fun d'=>K d' id)
 | .bptr e,.ptr n 0,K=>match boxOf h e n with
  | some (x,ns)=>K ⟨d.ax,n::(ns++d.cB)⟩ fun y=>(x,y)
  | none=>none
 | .bptr e,.rptr e' l i 0,K=>if q:e'=e then K d fun y=>((q▸(l.getD i e'.dh):e.T),y) else none
 | .dyn,.dyn x,K=>K d fun y=>(x,y)
 | .dead,_,K=>K d id
 | _,_,_=>none
def mV{α:Type}{R:Type u}(h:Nat→Option Obj):(cs:List CF)→DS→List CV→(DS→(α→vq cs α)→Option R)→Option R
 | [],d,[],K=>K d id
 | c::cs,d,v::vs,K=>c.decK h d v fun d' p=>mV h cs d' vs fun d2 q=>K d2 fun y=>p (q y)
 | [],_,_::_,_=>none
 | _::_,_,[],_=>none
def AF.decK{α:Type}{R:Type u}(h:Nat→Option Obj)(d:DS):(a:AF)→AV→(DS→(α→a.P α)→Option R)→Option R
 | .c x,.c v,K=>x.decK h d v K
 | .agg xs,.agg vs,K=>mV h xs d vs K
 | .c _,.agg _,_=>none
 | .agg _,.c _,_=>none
def OF.decK{α:Type}{R:Type u}(h:Nat→Option Obj)(d:DS):(o:OF)→Option Obj→(DS→(α→o.P α)→Option R)→Option R
 | .box cs,some (.box vs),K=>mV h cs d vs K
 | .arr e,some (.arr e' l),K=>if q:e'=e then K d fun y=>(q▸l,y) else none
 | .arr e,none,K=>K d fun y=>(([]:List e.T),y)
 | _,_,_=>none
def decSlK{α:Type}{R:Type u}(h:Nat→Option Obj)(g:Nat→Option AV):(ss:List (Nat×AF))→DS→(DS→(α→xd ss α)→Option R)→Option R
 | [],d,K=>K d id
 | s::ss,d,K=>match g s.1 with
  | some a=>s.2.decK h d a fun d' p=>decSlK h g ss d' fun d2 q=>K d2 fun y=>p (q y)
  | none=>none
def rF{α:Type}{R:Type u}(h:Nat→Option Obj)(d:DS)(o:OF)(K:DS→(α→o.P α)→Option R):Option (Option Nat)→Option R
 | some (some n)=>match h n with
  | some b=>o.decK h d (some b) K
  | none=>none
 | some none=>o.decK h d none K
 | none=>none
def np{α:Type}{R:Type u}(h:Nat→Option Obj):(ss:List (Nat×OF))→DS→(DS→(α→xF ss α)→Option R)→Option R
 | [],d,K=>K d id
 | s::ss,d,K=>rF h d s.2 (fun d' p=>np h ss d' fun d2 q=>K d2 fun y=>p (q y)) (aget d.ax s.1)
def DS.ok(d:DS):List Nat→Bool
 | []=>true
 | n::ns=>Bool.casesOn (ahas d.ax n) (d.ok ns) false
def iB:List Nat→List (Nat×Option Nat)
 | []=>[]
 | m::l=>(m,some m)::iB l
def Shape.decK{R:Type u}(s:Shape)(m:List Nat)(h:Nat→Option Obj)(g:Nat→Option AV)(K:s.X→DS→Option R):Option R :=
 decSlK h g s.sl ⟨iB m,[]⟩ fun d p=>np h s.ob d fun d' q=>Bool.casesOn (d'.ok d'.cB) none (K (p (q ())) d')
def iv:List Shape→Type
 | []=>Empty
 | [s]=>s.X
 | s::t::r=>s.X⊕iv (t::r)
structure ah where
 ins:Shape
 outs:List Shape
 au:List Nat
 f:ins.X→Option (iv outs)
def refs:CV→List Nat
 | .ptr n _ | .eptr n _ _ | .aptr n _ _ _ _ _ | .own n | .sub n _ _ | .bsub n _ _ _ _ _=>[n]
 | .fn _ js=>js
 | _=>[]
def refsO:Obj→List Nat
 | .box cs=>cs.flatMap refs
 | _=>[]
def p7:AV→List Nat
 | .c x=>refs x
 | .agg xs=>xs.flatMap refs
def collect:Nat→List Nat→aK→MA aK
 | 0,_,_=>.fail
 | _+1,[],acc=>.pure acc
 | f+1,n::t,acc=>match hget acc n with
  | some _=>collect f t acc
  | none=>.get n fun o=>collect f (refsO o++t) ((n,o)::acc)
def mu(base:Nat)(ax:List (Nat×Option Nat))(j:Nat):Nat :=
 match aget ax j with
 | some (some n)=>n
 | _=>base+j
def uL(μ:Nat→Nat):CV→CV
 | .ptr n o=>.ptr (μ n) o
 | .eptr n i o=>.eptr (μ n) i o
 | .aptr n a b c d e=>.aptr (μ n) a b c d e
 | .own n=>.own (μ n)
 | .sub n a b=>.sub (μ n) a b
 | .bsub n a b c d e=>.bsub (μ n) a b c d e
 | .fn f js=>.fn f (js.map μ)
 | c=>c
def nt(μ:Nat→Nat):AV→AV
 | .c x=>.c (uL μ x)
 | .agg xs=>.agg (xs.map (uL μ))
def mi(μ:Nat→Nat):Obj→Obj
 | .box cs=>.box (cs.map (uL μ))
 | o=>o
def fG:List (Nat×AV)→SV
 | [(_,a)]=>.v a
 | l=>.tup (l.map (·.2))
def layObs(μ:Nat→Nat)(ax:List (Nat×Option Nat)):aK→MA SV→MA SV
 | [],k=>k
 | (j,o)::h,k=>match aget ax j with
  | some (some n)=>.set n (mi μ o) (layObs μ ax h k)
  | _=>.new j (mi μ o) (layObs μ ax h k)
def strike(kp:List (Nat×Option Nat))(h:aK):List (Nat×Option Nat)→MA SV→MA SV
 | [],k=>k
 | (j,some n)::ax,k=>match aget kp j,hget h j with
  | some _,some _=>strike kp h ax k
  | _,_=>.del n (strike kp h ax k)
 | (_,none)::ax,k=>strike kp h ax k
def kept(au:List Nat):List (Nat×Option Nat)→List (Nat×Option Nat)
 | []=>[]
 | (j,x)::r=>Bool.casesOn (au.any (Nat.beq j)) (kept au r) ((j,x)::kept au r)
def oq(kp ax:List (Nat×Option Nat))(s:Shape)(r:s.X):MA SV :=
 .base fun b=>s.bZ r fun as h=>strike kp h ax (layObs (mu b kp) kp h (.pure (fG (as.map fun a=>(a.1,nt (mu b kp) a.2)))))
def finish(kp ax:List (Nat×Option Nat)):(ss:List Shape)→iv ss→MA SV
 | [],_=>.fail
 | [s],r=>oq kp ax s r
 | s::t::r,x=>.sum (β:=s.X) (γ:=iv (t::r)) x (oq kp ax s) (finish kp ax (t::r))
def mY:CF→Bool
 | .row _=>false
 | .dyn=>false
 | .bptr _=>false
 | _=>true
def Ay:AF→Bool
 | .c x=>mY x
 | .agg xs=>xs.all mY
def zY:OF→Bool
 | .box cs=>cs.all mY
 | .arr e=>e.flat
def Shape.flat(s:Shape):Bool:=s.sl.all (Ay ·.2)&&s.ob.all (zY ·.2)
def nthA:List AV→Nat→Option AV
 | [],_=>none
 | a::_,0=>some a
 | _::as,n+1=>nthA as n
def refsF:CF→List Nat
 | .own j=>[j]
 | .ptr j _=>[j]
 | .eptr j _=>[j]
 | .fn _ js=>js
 | _=>[]
def nodupK:List (Nat×OF)→Bool
 | []=>true
 | (k,_)::r=>!(r.any fun x=>Nat.beq x.1 k)&&nodupK r
def lW(c:CF):Bool:=(refsF c).all fun j=>Nat.blt j keys
def Gr:AF→Bool
 | .c x=>lW x
 | .agg xs=>xs.all lW
def CI:OF→Bool
 | .box cs=>cs.all lW
 | .arr _=>true
def Shape.wf(s:Shape):Bool:=nodupK s.ob&&(s.ob.all fun x=>Nat.blt x.1 keys&&CI x.2)&&s.sl.all fun x=>Gr x.2
def db:List (Nat×OF)→Nat→Nat
 | [],n=>n
 | (k,_)::r,n=>db r (Nat.max n (k+1))
def okAsg(m:Nat)(h:aK):List (Nat×Option Nat)→Bool
 | []=>true
 | (j,none)::r=>Bool.casesOn (Nat.blt j m) false (okAsg m h r)
 | (j,some n)::r=>match hget h n with
  | some _=>Bool.casesOn (Nat.blt j m) false (okAsg m h r)
  | none=>false
def Dq:List Nat→Bool
 | []=>true
 | _=>false
def ah.yd(s:ah)(args:List AV)(h:aK):Option (MA SV) :=
 s.ins.decK [] (hget h) (nthA args) fun x d =>
  Bool.casesOn (okAsg (db s.ins.ob 0) h d.ax) none <|
   Bool.casesOn (Dq d.cB||s.outs.all Shape.flat) none (some (.bindO (s.f x) (finish (kept s.au d.ax) d.ax s.outs)))
def tryAll(args:List AV)(h:aK):List ah→MA SV
 | []=>.fail
 | s::ss=>match s.yd args h with
  | some m=>m
  | none=>tryAll args h ss
def tl(ss:List ah)(args:List AV):MA SV:=(collect 64 (args.flatMap p7) []).bind fun h=>tryAll args h ss
inductive SK where
 | int (k:IntKind) | bool
def skget:List (Nat×List SK)→Nat→Option (List SK)
 | [],_=>none
 | (k,o)::h,n=>Bool.casesOn (Nat.beq k n) (skget h n) (some o)
structure Env where
 ti:List (Nat×TI)
 fns:List (Nat×ah)
 eqs:List (Nat×List SK)
 cut:List (Nat×Shape)
 head:List (Nat×Shape)
 FF:List (Nat×Shape)
 m:Nat
 au:List Nat
 fuel:Nat
def qe:List (Nat×Shape)→Nat→Option Shape
 | [],_=>none
 | (k,o)::h,n=>Bool.casesOn (Nat.beq k n) (qe h n) (some o)
def fnsOf:List (Nat×ah)→Nat→List ah
 | [],_=>[]
 | (k,s)::h,n=>Bool.casesOn (Nat.beq k n) (fnsOf h n) (s::fnsOf h n)
def ofVal:Value→CV
 | .int k n=>.int k n
 | .bool b=>.bool b
 | .string s=>.str s
 | .pointer none=>.nilp
 | .slice none 0 0=>.nils
 | .nilIface=>.nili
 | .nilFunc=>.nilf
 | .complex .f64 0 4607182418800017408=>.cint 0 1
 | .complex .f64 0 13830554455654793216=>.cint 0 (-1)
 | _=>.dead
def rd(sl:List SV):Operand→SV
 | .tmp t=>getS sl t
 | .const v=>.v (.c (ofVal v))
 | .func f=>.v (.c (.fn f []))
 | .global _=>.dead
def mkAV(agg:Bool)(cs:List CV):Option AV :=
 match agg,cs with
 | true,cs=>some (.agg cs)
 | false,[c]=>some (.c c)
 | false,_=>none
def mS:Option AV→MA SV
 | some a=>.pure (.v a)
 | none=>.fail
def putCs:List CV→Nat→List CV→Option (List CV)
 | cs,0,[]=>some cs
 | [],_,_=>none
 | _::cs,0,v::vs=>(putCs cs 0 vs).map fun r=>v::r
 | c::cs,o+1,vs=>(putCs cs o vs).map fun r=>c::r
def dG:AV→List CV
 | .c x=>[x]
 | .agg xs=>xs
def intsOf(k:IntKind):List CV→Option (List Int)
 | []=>some []
 | .int k' n::r=>if k'=k then (intsOf k r).map fun l=>n::l else none
 | _=>none
def boolsOf:List CV→Option (List Bool)
 | []=>some []
 | .bool b::r=>(boolsOf r).map fun l=>b::l
 | _=>none
def rowsOf(e:Ty):List CV→Option (List (List e.T))
 | []=>some []
 | .row e' x::r=>if q:e'=e then (rowsOf e r).map fun l=>(q▸x)::l else none
 | _=>none
def everyCs(stride:Nat):Nat→List CV→Option (List CV)
 | 0,_=>some []
 | n+1,cs=>match cs with
  | c::_=>(everyCs stride n (cs.drop stride)).map fun r=>c::r
  | []=>none
def sel(cs:List CV)(i:Nat):Option CV :=
 match cs with
 | .int k n::r=>(intsOf k (.int k n::r)).map fun l=>.int k (l.getD i 0)
 | .bool b::r=>(boolsOf (.bool b::r)).map fun l=>.bool (l.getD i false)
 | .row e x::r=>(rowsOf e (.row e x::r)).map fun l=>.row e (l.getD i [])
 | _=>none
def selN(cs:List CV)(len stride i:Nat):Nat→Nat→Option (List CV)
 | _,0=>some []
 | o,n+1=>match everyCs stride len (cs.drop o) with
  | some l=>match sel l i with
   | some c=>(selN cs len stride i (o+1) n).map fun r=>c::r
   | none=>none
  | none=>none
def putAt(stride o i:Nat)(v:CV):Nat→List CV→Option (List CV)
 | _,[]=>some []
 | q,c::r=>match putAt stride o i v (q+1) r with
  | none=>none
  | some r'=>Bool.casesOn (Nat.beq (q%stride) o) (some (c::r')) (match c,v with
   | .int k n,.int k' x=>if k'=k then some (.int k (if i=q/stride then x else n)::r') else none
   | .bool n,.bool x=>some (.bool (if i=q/stride then x else n)::r')
   | .row e n,.row e' x=>if q':e'=e then some (.row e (if i=q/stride then q'▸x else n)::r') else none
   | _,_=>none)
def putN(stride i:Nat):Nat→List CV→List CV→Option (List CV)
 | _,[],cs=>some cs
 | o,v::vs,cs=>match putAt stride o i v 0 cs with
  | some cs'=>putN stride i (o+1) vs cs'
  | none=>none
def loadM(i:TI):SV→MA SV
 | .v (.c (.ptr n off))=>.get n fun
  | .box cs=>match cutCs cs off i.size with
   | some l=>mS (mkAV i.agg l)
   | none=>.fail
  | _=>.fail
 | .v (.c (.eptr n j off))=>.get n fun
  | .arr e l=>match cutCs (e.enc (l.getD j e.dh) []) off i.size with
   | some l=>mS (mkAV i.agg l)
   | none=>.fail
  | .bF e l=>match cutCs (e.enc (l.getD j e.dh) []) off i.size with
   | some l=>mS (mkAV i.agg l)
   | none=>.fail
  | _=>.fail
 | .v (.c (.rptr e l j off))=>match cutCs (e.enc (l.getD j e.dh) []) off i.size with
  | some l=>mS (mkAV i.agg l)
  | none=>.fail
 | .v (.c (.aptr n off len stride j o))=>.get n fun
  | .box cs=>match cutCs cs off (len*stride) with
   | some l=>match selN l len stride j o i.size with
    | some r=>mS (mkAV i.agg r)
    | none=>.fail
   | none=>.fail
  | _=>.fail
 | _=>.fail
def rowsIn:Ty→List CV→MA (List CV×List CV)
 | .row _,.own n::r=>.get n fun
  | .arr e' l=>.set n (.bF e' l) (.pure ([.row e' l],r))
  | .bF e' l=>.pure ([.row e' l],r)
  | _=>.fail
 | .prod a b,cs=>(rowsIn a cs).bind fun x=>(rowsIn b x.2).bind fun y=>.pure (x.1++y.1,y.2)
 | _,c::r=>.pure ([c],r)
 | _,[]=>.fail
def gu(e:Ty):Nat→List CV→MA (List CV)
 | 0,[]=>.pure []
 | 0,_::_=>.fail
 | n+1,cs=>(rowsIn e cs).bind fun x=>(gu e n x.2).bind fun y=>.pure (x.1++y)
def live:CV→Bool
 | .dead=>false
 | _=>true
def fits(cs:List CV)(n:Nat):Bool:=Nat.beq cs.length n&&cs.all live
def storeM(i:TI):SV→SV→MA SV
 | .v (.c (.ptr n off)),.v a=>Bool.casesOn (fits (dG a) i.size) .fail<|.get n fun
  | .box cs=>match putCs cs off (dG a) with
   | some cs'=>.set n (.box cs') (.pure .dead)
   | none=>.fail
  | _=>.fail
 | .v (.c (.eptr n j off)),.v a=>Bool.casesOn (fits (dG a) i.size) .fail<|.get n fun
  | .arr e l=>match putCs (e.enc (l.getD j e.dh) []) off (dG a) with
   | some cs=>match e.dec cs with
    | some (x,[])=>.set n (.arr e (l.set j x)) (.pure .dead)
    | _=>.fail
   | none=>.fail
  | _=>.fail
 | .v (.c (.aptr n off len stride j o)),.v a=>Bool.casesOn (fits (dG a) i.size&&Nat.ble (o+(dG a).length) stride) .fail<|.get n fun
  | .box cs=>match cutCs cs off (len*stride) with
   | some l=>match putN stride j o (dG a) l with
    | some l'=>match putCs cs off l' with
     | some cs'=>.set n (.box cs') (.pure .dead)
     | none=>.fail
    | none=>.fail
   | none=>.fail
  | _=>.fail
 | _,_=>.fail
def freezeM:SV→MA SV
 | .v (.c (.own n))=>(rowsIn (.row .bool) [.own n]).bind fun x=>match x.1 with
  | [c]=>.pure (.v (.c c))
  | _=>.fail
 | x=>.pure x
def zl:SV→Bool
 | .v (.c (.aptr _ _ _ _ _ _))=>true
 | _=>false
def freezeCs:List CV→MA (List CV)
 | []=>.pure []
 | .own n::r=>(rowsIn (.row .bool) [.own n]).bind fun x=>(freezeCs r).bind fun y=>.pure (x.1++y)
 | c::r=>(freezeCs r).bind fun y=>.pure (c::y)
def celsOf:List CV→Option (List cn)
 | []=>some []
 | .int k n::r=>(celsOf r).map fun l=>.int k n::l
 | .bool b::r=>(celsOf r).map fun l=>.bool b::l
 | .row (.int .u8) x::r=>(celsOf r).map fun l=>.row x::l
 | .nils::r=>(celsOf r).map fun l=>.row []::l
 | _=>none
def faceM(t:Nat):SV→MA SV
 | .v (.agg cs)=>(freezeCs cs).bind fun cs'=>match celsOf cs' with
  | some l=>ret (.dyn (.mk t l))
  | none=>.fail
 | _=>.fail
def okCels:List CV→List cn→Bool
 | [],[]=>true
 | .int k _::z,.int k' _::cs=>decide (k'=k)&&okCels z cs
 | .bool _::z,.bool _::cs=>okCels z cs
 | .nils::z,.row _::cs=>okCels z cs
 | _,_=>false
def nn:List CV→List cn→Nat→List CV
 | [],_,_=>[]
 | .int k _::z,cs,j=>.int k (cm cs j)::nn z cs (j+1)
 | .bool _::z,cs,j=>.bool (Bt cs j)::nn z cs (j+1)
 | _::z,cs,j=>.row (.int .u8) (uz cs j)::nn z cs (j+1)
def assertM(t:Nat)(i:TI):SV→MA SV
 | .v (.c (.dyn d))=>.cond (d.is t) (.cond (okCels i.zero d.cs) (.pure (.tup [.agg (nn i.zero d.cs 0),.c (.bool true)])) .fail) (.pure (.tup [.c .dead,.c (.bool false)]))
 | _=>.fail
def arithM(op:BinOp)(k:IntKind)(a b:Int):MA SV :=
 match op with
 | .add=>ret (.int k (k.wrap (a+b)))
 | .sub=>ret (.int k (k.wrap (a-b)))
 | .mul=>ret (.int k (k.wrap (a*b)))
 | .quo=>.cond (decide (b=0)) .fail (ret (.int k (k.wrap (a.tdiv b))))
 | .rem=>.cond (decide (b=0)) .fail (ret (.int k (a.tmod b)))
 | .and=>ret (.int k (k.wrap ((BitVec.ofInt k.bits a &&& BitVec.ofInt k.bits b).toNat:Nat)))
 | .or=>ret (.int k (k.wrap ((BitVec.ofInt k.bits a ||| BitVec.ofInt k.bits b).toNat:Nat)))
 | .xor=>ret (.int k (k.wrap ((BitVec.ofInt k.bits a ^^^ BitVec.ofInt k.bits b).toNat:Nat)))
 | .eql=>ret (.bool (a==b))
 | .neq=>ret (.bool (a !=b))
 | .lss=>ret (.bool (decide (a<b)))
 | .leq=>ret (.bool (decide (a≤b)))
 | .gtr=>ret (.bool (decide (a>b)))
 | .geq=>ret (.bool (decide (a≥b)))
 | _=>.fail
def shiftM(op:BinOp)(k:IntKind)(a b:Int):MA SV :=
 .cond (decide (b<0)) .fail <|
  match op with
  | .shl=>ret (.int k (k.wrap (a*2 ^ (min b.toNat k.bits))))
  | .shr=>ret (.int k (a.fdiv (2 ^ (min b.toNat k.bits))))
  | _=>.fail
def eq1:SK→CV→CV→Option Bool
 | .int k,.int k1 a,.int k2 b=>if k1=k∧k2=k then some (a==b) else none
 | .bool,.bool a,.bool b=>some (a==b)
 | _,_,_=>none
def eqCs:List SK→List CV→List CV→Option Bool
 | [],[],[]=>some true
 | k::ks,x::xs,y::ys=>match eq1 k x y with
  | some b=>match eqCs ks xs ys with
   | some r=>some (b&&r)
   | none=>none
  | none=>none
 | _,_,_=>none
def nilEq(ud:UD)(x y:CV):Option Bool :=
 match ud with
 | .ptr _=>match x,y with
  | .nilp,.nilp=>some true
  | .nilp,.ptr _ _ | .ptr _ _,.nilp | .nilp,.eptr _ _ _ | .eptr _ _ _,.nilp=>some false
  | _,_=>none
 | .slice _=>match x,y with
  | .nils,.nils=>some true
  | _,_=>none
 | _=>none
def boolM(op:BinOp)(b:Bool):MA SV :=
 match op with
 | .eql=>ret (.bool b)
 | .neq=>ret (.bool (!b))
 | _=>.fail
def small(x:Int):Bool:=decide (x.natAbs<9007199254740992)
def Ht(u v:Int):Bool:=decide (u=0)&&decide (v=1)
def binM(bQ:List (Nat×TI))(eqs:List (Nat×List SK))(op:BinOp)(t:Nat):SV→SV→MA SV
 | .v (.c (.int k a)),.v (.c (.int k' b)) =>
  match op with
  | .shl=>shiftM .shl k a b
  | .shr=>shiftM .shr k a b
  | op=>if k=k' then arithM op k a b else .fail
 | .v (.c (.str a)),.v (.c (.str b))=>boolM op (a.toList==b.toList)
 | .v (.c (.cint x y)),.v (.c (.cint u v)) =>
  match op with
  | .add=>.cond (small (x+u)&&small (y+v)) (ret (.cint (x+u) (y+v))) .fail
  | .mul=>.cond (Ht u v) (.cond (small x&&small y) (ret (.cint (-y) x)) .fail) .fail
  | _=>.fail
 | .v (.agg xs),.v (.agg ys)=>match skget eqs t with
  | some ks=>match eqCs ks xs ys with
   | some b=>boolM op b
   | none=>.fail
  | none=>.fail
 | .v (.c x),.v (.c y)=>match tget bQ t with
  | some i=>match x,y with
   | .bool a,.bool b=>match i.bD with
    | .bool=>boolM op (a==b)
    | _=>.fail
   | x,y=>match nilEq i.bD x y with
    | some b=>boolM op b
    | none=>.fail
  | none=>.fail
 | _,_=>.fail
def unM(op:UnOp):SV→MA SV
 | .v (.c (.int k n))=>match op with
  | .neg=>ret (.int k (k.wrap (0-n)))
  | _=>.fail
 | .v (.c (.bool b))=>match op with
  | .not=>ret (.bool (!b))
  | _=>.fail
 | _=>.fail
def bytesOf(l:List Int):ByteArray:=⟨(l.map fun n=>UInt8.ofNat n.toNat).toArray⟩
def isBytes(bQ:List (Nat×TI)):UD→Bool
 | .slice e=>match tget bQ e with
  | some i=>match i.bD with
   | .int .u8=>true
   | _=>false
  | none=>false
 | _=>false
def convM(bQ:List (Nat×TI))(src dst:UD):SV→MA SV
 | .v (.c (.int _ n))=>match dst with
  | .int k=>ret (.int k (k.wrap n))
  | .flt .f64=>.cond (small n) (ret (.fint n)) .fail
  | _=>.fail
 | .v (.c (.fint n))=>match dst with
  | .int .i64=>.cond (small n) (ret (.int .i64 n)) .fail
  | _=>.fail
 | .v (.c (.row (.int .u8) l))=>match dst with
  | .str=>Bool.casesOn (isBytes bQ src) .fail (ret (.str (bytesOf l)))
  | _=>.fail
 | .v (.c .nils)=>match dst with
  | .str=>Bool.casesOn (isBytes bQ src) .fail (ret (.str (bytesOf [])))
  | _=>.fail
 | .v (.c (.own n))=>match dst with
  | .str=>Bool.casesOn (isBytes bQ src) .fail<|.get n fun
   | .arr (.int .u8) l=>ret (.str (bytesOf l))
   | .bF (.int .u8) l=>ret (.str (bytesOf l))
   | _=>.fail
  | _=>.fail
 | _=>.fail
def ae(z:Int)(n:Nat):Bool:=decide (0≤z∧z<(n:Int))
def idxM(ud:UD)(esize:Nat)(x i:SV):MA SV :=
 match i with
 | .v (.c (.int _ z)) =>
  match ud,x with
  | .slice _,.v (.c (.row e l))=>Bool.casesOn (Nat.beq e.size esize) .fail (.cond (ae z l.length) (ret (.rptr e l z.toNat 0)) .fail)
  | .slice _,.v (.c (.own n))=>.get n fun
   | .arr e l=>Bool.casesOn (Nat.beq e.size esize) .fail (.cond (ae z l.length) (ret (.eptr n z.toNat 0)) .fail)
   | .bF e l=>Bool.casesOn (Nat.beq e.size esize) .fail (.cond (ae z l.length) (ret (.eptr n z.toNat 0)) .fail)
   | _=>.fail
  | .slice _,.v (.c (.sub n lo hi))=>.get n fun
   | .arr e _=>Bool.casesOn (Nat.beq e.size esize) .fail (.cond (ae z (hi-lo)) (ret (.eptr n (lo+z.toNat) 0)) .fail)
   | .bF e _=>Bool.casesOn (Nat.beq e.size esize) .fail (.cond (ae z (hi-lo)) (ret (.eptr n (lo+z.toNat) 0)) .fail)
   | _=>.fail
  | .arr len _,.v (.c (.ptr n off))=>.cond (ae z len) (ret (.aptr n off len esize z.toNat 0)) .fail
  | _,_=>.fail
 | _=>.fail
def idxvM(ud:UD)(ei:TI)(x i:SV):MA SV :=
 match i with
 | .v (.c (.int _ z)) =>
  match ud,x with
  | .arr len _,.v (.agg cs)=>.cond (ae z len) (match selN cs len ei.size z.toNat 0 ei.size with
   | some r=>mS (mkAV ei.agg r)
   | none=>.fail) .fail
  | .str,.v (.c (.str s))=>.cond (ae z s.size) (ret (.int .u8 ((s.data.getD z.toNat 0).toNat:Nat))) .fail
  | _,_=>.fail
 | _=>.fail
def fieldM(off:Nat):SV→MA SV
 | .v (.c (.ptr n o))=>ret (.ptr n (o+off))
 | .v (.c (.eptr n i o))=>ret (.eptr n i (o+off))
 | .v (.c (.aptr n a b c i o))=>ret (.aptr n a b c i (o+off))
 | .v (.c (.rptr e l i o))=>ret (.rptr e l i (o+off))
 | _=>.fail
def lenM(ud:UD)(x:SV):MA SV :=
 match ud with
 | .slice _=>match x with
  | .v (.c (.row _ l))=>ret (.int .i64 (l.length:Nat))
  | .v (.c (.own n))=>.get n fun
   | .arr _ l=>ret (.int .i64 (l.length:Nat))
   | .bF _ l=>ret (.int .i64 (l.length:Nat))
   | _=>.fail
  | .v (.c (.sub _ lo hi))=>ret (.int .i64 (hi-lo:Nat))
  | .v (.c .nils)=>ret (.int .i64 0)
  | _=>.fail
 | .str=>match x with
  | .v (.c (.str s))=>ret (.int .i64 (s.size:Nat))
  | _=>.fail
 | .arr n _=>ret (.int .i64 (n:Nat))
 | _=>.fail
def aX(a b:Int):Int:=if b<a then b else a
def cz(a b:Int):Int:=if b>a then b else a
def foldM(f:Int→Int→Int)(k:IntKind)(a:Int):List SV→MA SV
 | []=>ret (.int k a)
 | .v (.c (.int k' b))::r=>if k=k' then foldM f k (f a b) r else .fail
 | _=>.fail
def minmaxM(f:Int→Int→Int):List SV→MA SV
 | .v (.c (.int k a))::r=>foldM f k a r
 | _=>.fail
def bnd(d:Int):Option SV→Option Int
 | none=>some d
 | some (.v (.c (.int _ z)))=>some z
 | _=>none
def sliceM(esize:Nat)(x:SV)(lo hi:Option SV):MA SV :=
 match x with
 | .v (.c (.row e l))=>match bnd 0 lo,bnd (l.length:Nat) hi with
  | some a,some b=>Bool.casesOn (Nat.beq e.size esize) .fail (.cond (decide (0≤a∧a≤b∧b≤(l.length:Int))) (ret (.row e ((l.take b.toNat).drop a.toNat))) .fail)
  | _,_=>.fail
 | .v (.c (.own n))=>.get n fun
  | .arr e l=>match bnd 0 lo,bnd (l.length:Nat) hi with
   | some a,some b=>Bool.casesOn (Nat.beq e.size esize) .fail (.cond (decide (0≤a∧a≤b∧b≤(l.length:Int))) (ret (.sub n a.toNat b.toNat)) .fail)
   | _,_=>.fail
  | _=>.fail
 | .v (.c (.sub n p q))=>.get n fun
  | .arr e _=>match bnd 0 lo,bnd ((q-p:Nat):Int) hi with
   | some a,some b=>Bool.casesOn (Nat.beq e.size esize) .fail (.cond (decide (0≤a∧a≤b∧b≤((q-p:Nat):Int))) (ret (.sub n (p+a.toNat) (p+b.toNat))) .fail)
   | _,_=>.fail
  | _=>.fail
 | _=>.fail
def sliceBoxM(len esize:Nat)(x:SV)(lo hi:Option SV):MA SV :=
 match x with
 | .v (.c (.ptr n off))=>match bnd 0 lo,bnd (len:Nat) hi with
  | some a,some b=>.cond (decide (0≤a∧a≤b∧b≤(len:Int))) (ret (.bsub n off len esize a.toNat b.toNat)) .fail
  | _,_=>.fail
 | _=>.fail
def aB(bytes:Nat):Nat:=140737488355328/bytes
def makeM(e:Ty)(bytes:Nat)(len cap:SV):MA SV :=
 match len,cap with
 | .v (.c (.int _ n)),.v (.c (.int _ c))=>.cond (decide (0≤n∧n≤c∧c≤(aB bytes:Int))) (.base fun b=>.new 0 (.arr e (List.replicate n.toNat e.dh)) (ret (.own b))) .fail
 | _,_=>.fail
def moreM(e:Ty):SV→MA (List e.T)
 | .v (.c (.row e' l))=>if q:e'=e then .pure (q▸l) else .fail
 | .v (.c .nils)=>.pure []
 | .v (.c (.own n))=>.get n fun
  | .arr e' l=>if q:e'=e then .pure (q▸l) else .fail
  | .bF e' l=>if q:e'=e then .pure (q▸l) else .fail
  | _=>.fail
 | .v (.c (.sub n lo hi))=>.get n fun
  | .arr e' l=>if q:e'=e then .pure (((q▸l:List e.T).take hi).drop lo) else .fail
  | .bF e' l=>if q:e'=e then .pure (((q▸l:List e.T).take hi).drop lo) else .fail
  | _=>.fail
 | _=>.fail
def appendM(e:Ty)(bytes:Nat)(x y:SV):MA SV :=
 (moreM e y).bind fun more =>
  match x with
  | .v (.c (.own n))=>.get n fun
   | .arr e' l=>if q:e'=e then .cond (decide ((q▸l:List e.T).length+more.length≤aB bytes)) (.del n (.base fun b=>.new 0 (.arr e ((q▸l:List e.T)++more)) (ret (.own b)))) .fail else .fail
   | _=>.fail
  | .v (.c .nils)=>.cond (decide (more.length≤aB bytes)) (.base fun b=>.new 0 (.arr e more) (ret (.own b))) .fail
  | _=>.fail
def appendMakeM(e:Ty)(bytes:Nat)(x y:SV):MA SV :=
 match x,y with
 | .v (.c .nils),.v (.c (.int .i64 n))=>.cond (decide (0<n∧n≤(aB bytes:Int))) (.base fun b=>.new 0 (.arr e (List.replicate n.toNat e.dh)) (ret (.own b))) .fail
 | _,_=>.fail
def capM(x:SV):MA SV :=
 match x with
 | .v (.c .nils)=>ret (.int .i64 0)
 | _=>.fail
def cutM(esize:Nat)(x:SV)(lo hi:Option SV):MA SV :=
 match lo with
 | some _=>.fail
 | none=>match x with
  | .v (.c .nils)=>match bnd 0 hi with
   | some b=>.cond (decide (b=0)) (ret .nils) .fail
   | none=>.fail
  | .v (.c (.own n))=>.get n fun
   | .arr e l=>match bnd (l.length:Nat) hi with
    | some b=>Bool.casesOn (Nat.beq e.size esize) .fail (.cond (decide (0≤b∧b≤(l.length:Int))) (.del n (.base fun k=>.new 0 (.arr e (l.take b.toNat)) (ret (.own k)))) .fail)
    | none=>.fail
   | _=>.fail
  | _=>.fail
def fillCs(place:Nat→Option (Nat×Nat))(cs:List CV):List (Nat×SV)→Option (List CV)
 | []=>some cs
 | (i,.v a)::r=>match place i with
  | some (off,size)=>Bool.casesOn (fits (dG a) size) none (match putCs cs off (dG a) with
   | some cs'=>fillCs place cs' r
   | none=>none)
  | none=>none
 | _=>none
def nthF:List (Nat×Nat)→Nat→Option (Nat×Nat)
 | [],_=>none
 | x::_,0=>some x
 | _::r,n+1=>nthF r n
def repCs(cs:List CV):Nat→List CV
 | 0=>[]
 | n+1=>cs++repCs cs n
def placeOf(bQ:List (Nat×TI))(i:TI)(j:Nat):Option (Nat×Nat) :=
 match i.bD with
 | .struct fs=>match nthF fs j with
  | some (off,t)=>match tget bQ t with
   | some q=>some (off,q.size)
   | none=>none
  | none=>none
 | .arr _ e=>match tget bQ e with
  | some q=>some (j*q.size,q.size)
  | none=>none
 | _=>none
def argsOf:List SV→Option (List AV)
 | []=>some []
 | .v a::r=>(argsOf r).map fun l=>a::l
 | _=>none
def yn(cs:List CV):MA SV:=.base fun b=>.new 0 (.box cs) (ret (.ptr b 0))
def lI(sl:List SV)(ps:List (Nat×Operand)):List (Nat×SV):=ps.map fun p=>(p.1,rd sl p.2)
def keysOf:List SV→Option (List Nat)
 | []=>some []
 | .v (.c (.ptr n 0))::r=>(keysOf r).map fun l=>n::l
 | _=>none
def kB:SV→MA SV
 | .v (.c (.ptr n o))=>ret (.ptr n o)
 | .v (.c (.eptr n i o))=>ret (.eptr n i o)
 | .v (.c (.rptr e l i o))=>ret (.rptr e l i o)
 | .v (.c (.aptr n a b c i o))=>ret (.aptr n a b c i o)
 | _=>.fail
def tupM(i:Nat):SV→MA SV
 | .tup l=>match nthA l i with
  | some a=>.pure (.v a)
  | none=>.fail
 | _=>.fail
def cpxM:List SV→MA SV
 | [.v (.c (.fint a)),.v (.c (.fint b))]=>ret (.cint a b)
 | _=>.fail
def realM:List SV→MA SV
 | [.v (.c (.cint a _))]=>ret (.fint a)
 | _=>.fail
def xY:List SV→MA SV
 | [.v (.c (.cint _ b))]=>ret (.fint b)
 | _=>.fail
def elemM(bQ:List (Nat×TI))(t:Nat)(k:Ty→TI→MA SV):MA SV :=
 match tget bQ t with
 | some i=>match i.bD with
  | .slice e=>match tget bQ e with
   | some j=>match j.ty with
    | some ty=>k ty j
    | none=>.fail
   | none=>.fail
  | _=>.fail
 | none=>.fail
def opM(E:Env)(sl:List SV)(_:Nat):Op→MA SV
 | .move x=>.pure (rd sl x)
 | .assign x=>.pure (rd sl x)
 | .pick c a b=>match rd sl c with
  | .v (.c (.bool t))=>.cond t (.pure (rd sl a)) (.pure (rd sl b))
  | _=>.fail
 | .alloc elem=>match tget E.ti elem with
  | some i=>yn i.zero
  | none=>.fail
 | .box elem x=>match tget E.ti elem,rd sl x with
  | some i,.v a=>Bool.casesOn (fits (dG a) i.size) .fail (yn (dG a))
  | _,_=>.fail
 | .build t ps=>match tget E.ti t with
  | some i=>Bool.casesOn i.agg .fail (match fillCs (placeOf E.ti i) i.zero (lI sl ps.toList) with
   | some cs=>.pure (.v (.agg cs))
   | none=>.fail)
  | none=>.fail
 | .buildSlice t n ps=>elemM E.ti t fun e j=>match fillCs (fun i=>some (i*j.size,j.size)) (repCs j.zero n) (lI sl ps.toList) with
  | some cs=>Bool.casesOn (Nat.ble (n*j.size) 16777216) .fail<|(gu e n cs).bind fun cs'=>match e.decL n cs' with
   | some l=>.base fun b=>.new 0 (.arr e l) (ret (.own b))
   | none=>.fail
  | none=>.fail
 | .load t a=>match tget E.ti t with
  | some i=>loadM i (rd sl a)
  | none=>.fail
 | .store t a x=>match tget E.ti t with
  | some i=>Bool.casesOn (zl (rd sl a)) (storeM i (rd sl a) (rd sl x)) ((freezeM (rd sl x)).bind fun y=>storeM i (rd sl a) y)
  | none=>.fail
 | .nilCheck x=>kB (rd sl x)
 | .binOp op t x y _=>binM E.ti E.eqs op t (rd sl x) (rd sl y)
 | .unOp op _ x=>unM op (rd sl x)
 | .convert s d x=>match tget E.ti s,tget E.ti d with
  | some i,some j=>convM E.ti i.bD j.bD (rd sl x)
  | _,_=>.fail
 | .makeFunc (.func f) first captured=>match first.toList,keysOf (captured.toList.map (rd sl)) with
  | [],some ns=>ret (.fn f ns)
  | _,_=>.fail
 | .makeSlice t l c=>elemM E.ti t fun e j=>makeM e j.bytes (rd sl l) (rd sl c)
 | .slice t x lo hi none=>match tget E.ti t with
  | some i=>match i.bD with
   | .slice e=>match tget E.ti e with
    | some j=>Bool.casesOn (qe E.FF 1000000).isSome (sliceM j.size (rd sl x) (lo.map (rd sl)) (hi.map (rd sl))) (cutM j.size (rd sl x) (lo.map (rd sl)) (hi.map (rd sl)))
    | none=>.fail
   | .arr len e=>match tget E.ti e with
    | some j=>sliceBoxM len j.size (rd sl x) (lo.map (rd sl)) (hi.map (rd sl))
    | none=>.fail
   | _=>.fail
  | none=>.fail
 | .fieldAddr s x f=>match tget E.ti s with
  | some i=>match i.bD with
   | .struct fs=>match nthF fs f with
    | some (off,t)=>match tget E.ti t with
     | some j=>Bool.casesOn (Nat.beq j.size 0) (fieldM off (rd sl x)) .fail
     | none=>.fail
    | none=>.fail
   | _=>.fail
  | none=>.fail
 | .field s x f=>match tget E.ti s with
  | some i=>match i.bD with
   | .struct fs=>match nthF fs f with
    | some (off,t)=>match tget E.ti t,rd sl x with
     | some j,.v (.agg cs)=>match cutCs cs off j.size with
      | some l=>mS (mkAV j.agg l)
      | none=>.fail
     | _,_=>.fail
    | none=>.fail
   | _=>.fail
  | none=>.fail
 | .indexAddr t x i=>match tget E.ti t with
  | some q=>match q.bD with
   | .slice e=>match tget E.ti e with
    | some j=>idxM q.bD j.size (rd sl x) (rd sl i)
    | none=>.fail
   | .arr _ e=>match tget E.ti e with
    | some j=>idxM q.bD j.size (rd sl x) (rd sl i)
    | none=>.fail
   | _=>.fail
  | none=>.fail
 | .index t x i=>match tget E.ti t with
  | some q=>match q.bD with
   | .arr _ e=>match tget E.ti e with
    | some j=>idxvM q.bD j (rd sl x) (rd sl i)
    | none=>.fail
   | .str=>idxvM q.bD q (rd sl x) (rd sl i)
   | _=>.fail
  | none=>.fail
 | .extract t i=>tupM i (rd sl t)
 | .makeInterface t x=>match tget E.ti t with
  | some i=>Bool.casesOn i.agg .fail (faceM t (rd sl x))
  | none=>.fail
 | .typeAssert x _ t ok=>match tget E.ti t with
  | some i=>Bool.casesOn (i.agg&&ok) .fail (assertM t i (rd sl x))
  | none=>.fail
 | .call c=>match c.callee with
  | .value f=>match rd sl f,argsOf (c.args.toList.map (rd sl)) with
   | .v (.c (.fn g js)),some as=>tl (fnsOf E.fns g) (as++js.map fun n=>.c (.ptr n 0))
   | _,_=>.fail
  | .builtin .len=>match c.argTypes.toList,c.args.toList with
   | [t],[x]=>match tget E.ti t with
    | some i=>lenM i.bD (rd sl x)
    | none=>.fail
   | _,_=>.fail
  | .builtin .append=>match c.argTypes.toList,c.args.toList with
   | [t,t'],[x,y]=>Bool.casesOn (Nat.beq t t') (match tget E.ti t' with
    | some i=>match i.bD with
     | .int .i64=>elemM E.ti t fun e j=>appendMakeM e j.bytes (rd sl x) (rd sl y)
     | _=>.fail
    | none=>.fail) (elemM E.ti t fun e j=>appendM e j.bytes (rd sl x) (rd sl y))
   | _,_=>.fail
  | .builtin .cap=>match c.argTypes.toList,c.args.toList with
   | [t],[x]=>match tget E.ti t with
    | some i=>match i.bD with
     | .slice _=>capM (rd sl x)
     | _=>.fail
    | none=>.fail
   | _,_=>.fail
  | .builtin .min=>minmaxM aX (c.args.toList.map (rd sl))
  | .builtin .max=>minmaxM cz (c.args.toList.map (rd sl))
  | .builtin .complex=>cpxM (c.args.toList.map (rd sl))
  | .builtin .real=>realM (c.args.toList.map (rd sl))
  | .builtin .imag=>xY (c.args.toList.map (rd sl))
  | _=>.fail
 | _=>.fail
structure St where
 bW:List SV
 heap:aK
 next:Nat
def putDst{R:Type}(sl:List SV):Option Nat→SV→(List SV→R)→R
 | none,_,K=>K sl
 | some d,v,K=>setK sl d v K
def fV(ops:List Oper)(j:Nat):Option Nat :=
 match ops[j]? with
 | some o=>o.dst
 | none=>none
def qP{A:Type}(E:Env)(o:Oper)(sl:List SV)(h:aK)(base:Nat)(K:List SV→aK→FP→Option A):Option A :=
 (opM E sl o.type o.op).run base h ⟨[],[]⟩ fun v h' fp=>v.force fun v'=>putDst sl o.dst v' fun sl'=>K sl' h' fp
def stepOp{A:Type}(E:Env)(ops:List Oper)(o:Oper)(sl:List SV)(h:aK)(base:Nat)(K:List SV→aK→FP→Option A):Option A :=
 match o.guard with
 | none=>qP E o sl h base K
 | some (j,want)=>match fV ops j with
  | none=>none
  | some t=>match getS sl t with
   | .v (.c (.bool b)) =>
    Bool.casesOn b
     (setK sl t (.v (.c (.bool false))) fun sl'=>Bool.casesOn want (qP E o sl' h base K) (putDst sl' o.dst (.tup []) fun sl2=>K sl2 h ⟨[],[]⟩))
     (setK sl t (.v (.c (.bool true))) fun sl'=>Bool.casesOn want (putDst sl' o.dst (.tup []) fun sl2=>K sl2 h ⟨[],[]⟩) (qP E o sl' h base K))
   | .tup []=>putDst sl o.dst (.tup []) fun sl2=>K sl2 h ⟨[],[]⟩
   | _=>none
def runOps{A:Type}(E:Env)(ops:List Oper):List Oper→List SV→aK→Nat→List FP→(List SV→aK→List FP→Option A)→Option A
 | [],sl,h,_,fps,K=>K sl h fps
 | o::os,sl,h,base,fps,K=>stepOp E ops o sl h base fun sl' h' fp=>runOps E ops os sl' h' (base+keys) (fp::fps) K
def maskOf(pre:List Nat):List Edge→Nat
 | []=>0
 | e::es=>Bool.casesOn (Region.binds .any e) (maskOf pre es) (Nat.lor (Nat.lor (Nat.shiftLeft 1 e.on) (pre.getD e.on 0)) (maskOf pre es))
def dY(pre:List Nat)(o:Oper):List Nat:=pre++[maskOf pre o.after.toList]
def lL(ops:List Oper):List Nat:=ops.foldl dY []
def looks(ops:List Oper)(o:Oper):List Nat :=
 (o.op.operands.toList.filterMap fun | .tmp t=>some t | _=>none)++(match o.guard with | some (j,_)=>(fV ops j).toList | none=>[])
def meets(a b:List Nat):Bool:=a.any fun x=>b.any (Nat.beq x)
def dstIn(d:Option Nat)(l:List Nat):Bool :=
 match d with
 | some x=>l.any (Nat.beq x)
 | none=>false
def apart(ops:List Oper)(a b:Oper)(p q:FP):Bool :=
 !(dstIn a.dst (looks ops b))&&!(dstIn b.dst (looks ops a))&&!(dstIn a.dst b.dst.toList)&&!(meets p.writes (q.reads++q.writes))&&!(meets p.reads q.writes)
def apartAll(ops:List Oper)(pre:List Nat)(i:Nat)(o:Oper)(fp:FP):Nat→List Oper→List FP→Bool
 | _,[],_=>true
 | j,b::bs,q::qs=>(Nat.testBit (pre.getD i 0) j||apart ops b o q fp)&&apartAll ops pre i o fp (j+1) bs qs
 | _,_::_,[]=>false
def gP(ops:List Oper)(pre:List Nat)(fps:List FP):Nat→List Oper→List FP→Bool
 | _,[],_=>true
 | i,o::os,p::ps=>(o.after.toList.all fun e=>Bool.casesOn (Region.binds .any e) true (Nat.blt e.on i))&&(apartAll ops pre i o p 0 (ops.take i) fps&&gP ops pre fps (i+1) os ps)
 | _,_::_,[]=>false
inductive Ex where
 | norm
 | exit (id:Nat)
 | goto (l:Nat)
 | ret
def kG:Code→Nat
 | .region id _ _=>id+1
 | .seq a b=>Nat.casesOn (kG a) (kG b) fun n=>n+1
 | .cond _ a b=>Nat.casesOn (kG a) (kG b) fun n=>n+1
 | .block _ a=>kG a
 | .loop a=>kG a
 | .scope a=>kG a
 | _=>0
def hasLabel:Code→Nat→Bool
 | .seq a b,l=>hasLabel a l||hasLabel b l
 | .label l',l=>Nat.beq l' l
 | _,_=>false
def Hy{X B:Type}(step:(X→Option B)→X→Option B):Nat→X→Option B
 | 0,_=>none
 | n+1,x=>step (Hy step n) x
structure H7 where
 it:{X B:Type}→((X→Option B)→X→Option B)→Nat→X→Option B
 zero:∀{X B:Type} (step:(X→Option B)→X→Option B) (x:X),it step 0 x=none
 succ:∀{X B:Type} (step:(X→Option B)→X→Option B) (n:Nat) (x:X),it step (n+1) x=step (it step n) x
noncomputable def Fm:H7:=Classical.choice ⟨⟨Hy,fun _ _=>rfl,fun _ _ _=>rfl⟩⟩
noncomputable def it{X B:Type}(step:(X→Option B)→X→Option B)(n:Nat)(x:X):Option B:=Fm.it step n x
theorem lB{X B:Type}(step:(X→Option B)→X→Option B)(x:X):it step 0 x=none:=Fm.zero step x
theorem fC{X B:Type}(step:(X→Option B)→X→Option B)(n:Nat)(x:X):it step (n+1) x=step (it step n) x:=Fm.succ step n x
def svA:SV→Option AV
 | .v a=>some a
 | _=>none
def mX(m:Nat):List (Nat×Option Nat)→Bool
 | []=>true
 | (j,_)::r=>Bool.casesOn (Nat.blt j m) false (mX m r)
def dj{R:Type}(J:Shape)(m:Nat)(au:List Nat)(s:St)(K:J.X→Option R):Option R :=
 Bool.casesOn J.wf none (J.decK au (hget s.heap) (fun i=>svA (getS s.bW i)) fun x d=>Bool.casesOn (mX (db J.ob m) d.ax) none (K x))
def ui:List (Nat×Shape)→Nat→Bool
 | [],_=>false
 | (k,_)::r,n=>Nat.beq k n||ui r n
def tz(E:Env)(s:St)(n:Nat):List (Nat×Shape)→Option Shape
 | []=>none
 | (k,H)::r=>Bool.casesOn (Nat.beq k n) (tz E s n r) (Bool.casesOn (ui r n) (some H) (match dj H E.m E.au s (fun _=>some ()) with
  | some _=>some H
  | none=>tz E s n r))
def Dh:List (Nat×Shape)→Nat→Bool
 | [],_=>false
 | (k,_)::r,n=>Bool.casesOn (Nat.beq k n) (Dh r n) (ui r n)
def leaves(E:Env)(n:Nat)(H:Shape)(s:St):Bool:=Bool.casesOn (Dh E.head n) false (match dj H E.m E.au s (fun _=>some ()) with
 | some _=>false
 | none=>true)
def cf:Nat→List SV
 | 0=>[]
 | n+1=>.dead::cf n
def laySl{R:Type}:List (Nat×AV)→List SV→(List SV→R)→R
 | [],sl,K=>K sl
 | (i,a)::r,sl,K=>setK sl i (.v a) fun sl'=>laySl r sl' K
def len':List SV→Nat
 | []=>0
 | _::l=>len' l+1
def jK{R:Type}(J:Shape)(m n:Nat)(x:J.X)(K:St→R):R :=
 J.bZ x fun as h=>laySl as (cf n) fun sl=>K ⟨sl,h,db J.ob m⟩
def nG{B R:Type}(f:B→R):Option B→Option R
 | some b=>some (f b)
 | none=>none
noncomputable def exec(E:Env):Code→{A:Type}→Option Nat→St→(Ex→St→Option A)→Option A
 | .skip,_,none,s,K=>K .norm s
 | .region _ ops draw,_,none,s,K =>
  runOps E ops.toList ops.toList s.bW s.heap s.next [] fun sl h fps =>
   Bool.casesOn draw (K .norm ⟨sl,h,s.next+keys*ops.size⟩)
    (Bool.casesOn (gP ops.toList (lL ops.toList) fps.reverse 0 ops.toList fps.reverse) none (K .norm ⟨sl,h,s.next+keys*ops.size⟩))
 | .seq a b,A,none,s,K =>
  match qe E.cut (kG b) with
  | none=>exec E a none s fun e s'=>match e with
   | .norm=>exec E b none s' K
   | .exit i=>K (.exit i) s'
   | .goto i=>K (.goto i) s'
   | .ret=>K .ret s'
  | some J=>Option.bind (exec E a (A:=J.X⊕A) none s fun e s'=>match e with
    | .norm=>dj J E.m E.au s' fun x=>some (Sum.inl x)
    | .exit i=>nG Sum.inr (K (.exit i) s')
    | .goto i=>nG Sum.inr (K (.goto i) s')
    | .ret=>nG Sum.inr (K .ret s')) (Sum.elim (fun x=>jK J E.m (len' s.bW) x fun s'=>exec E b none s' K) some)
 | .seq a b,_,some l,s,K=>Bool.casesOn (hasLabel a l) (exec E b (some l) s K) (exec E a (some l) s fun e s'=>match e with
   | .norm=>exec E b none s' K
   | .exit i=>K (.exit i) s'
   | .goto i=>K (.goto i) s'
   | .ret=>K .ret s')
 | .cond c t e,_,none,s,K=>match rd s.bW c with
  | .v (.c (.bool b))=>Bool.casesOn b (exec E e none s K) (exec E t none s K)
  | _=>none
 | .block id b,_,none,s,K=>exec E b none s fun e s'=>match e with
  | .norm=>K .norm s'
  | .exit i=>Bool.casesOn (Nat.beq i id) (K (.exit i) s') (K .norm s')
  | .goto i=>K (.goto i) s'
  | .ret=>K .ret s'
 | .loop b,_,none,s,K=>match tz E s (kG b) E.head with
  | none=>none
  | some H=>dj H E.m E.au s fun x=>it (fun rec x=>jK H E.m (len' s.bW) x fun s'=>exec E b none s' fun e s2=>match e with
   | .norm=>Bool.casesOn (leaves E (kG b) H s2) (dj H E.m E.au s2 rec) (match tz E s2 (kG b) E.head with
    | none=>none
    | some H2=>dj H2 E.m E.au s2 fun x2=>it (fun rec2 x2=>jK H2 E.m (len' s.bW) x2 fun s3=>exec E b none s3 fun e2 s4=>match e2 with
     | .norm=>dj H2 E.m E.au s4 rec2
     | .exit i=>K (.exit i) s4
     | .goto i=>K (.goto i) s4
     | .ret=>K .ret s4) E.fuel x2)
   | .exit i=>K (.exit i) s2
   | .goto i=>K (.goto i) s2
   | .ret=>K .ret s2) E.fuel x
 | .exit i,_,none,s,K=>K (.exit i) s
 | .label _,_,none,s,K=>K .norm s
 | .label l',_,some l,s,K=>Bool.casesOn (Nat.beq l' l) none (K .norm s)
 | .goto l,_,none,s,K=>K (.goto l) s
 | .ret,_,none,s,K=>K .ret s
 | .scope b,_,none,s,K=>exec E b none s fun e s'=>match e with
  | .norm=>K .norm s'
  | .exit i=>K (.exit i) s'
  | .ret=>K .ret s'
  | .goto l=>Bool.casesOn (hasLabel b l) (K (.goto l) s') (match qe E.FF l with
   | none=>none
   | some H=>dj H E.m E.au s' fun x=>it (fun rec x=>jK H E.m (len' s.bW) x fun s2=>exec E b (some l) s2 fun e s3=>match e with
    | .norm=>K .norm s3
    | .exit i=>K (.exit i) s3
    | .goto l'=>Bool.casesOn (Nat.beq l' l) (Bool.casesOn (hasLabel b l') (K (.goto l') s3) none) (dj H E.m E.au s3 rec)
    | .ret=>K .ret s3) E.fuel x)
 | _,_,_,_,_=>none
def resAV(s:St)(bQ:List (Nat×TI)):ResultVar→Option AV
 | .tmp t=>svA (getS s.bW t)
 | .cell a t=>match getS s.bW a,tget bQ t with
  | .v (.c (.ptr n off)),some i=>match hget s.heap n with
   | some (.box cs)=>match cutCs cs off i.size with
    | some l=>mkAV i.agg l
    | none=>none
   | _=>none
  | _,_=>none
def iQ{R:Type}(m:List Nat)(h:Nat→Option Obj)(g:Nat→Option AV):(ss:List Shape)→(iv ss→R)→Option R
 | [],_=>none
 | [s],K=>s.decK m h g fun x _=>some (K x)
 | s::t::r,K=>match s.decK m h g fun x _=>some (K (Sum.inl x)) with
  | some y=>some y
  | none=>iQ m h g (t::r) fun y=>K (Sum.inr y)
def nthO{α:Type}:List (Option α)→Nat→Option α
 | [],_=>none
 | a::_,0=>a
 | _::as,n+1=>nthO as n
def seqFrom:List (Nat×AF)→Nat→Nat→Bool
 | [],i,k=>Nat.beq i k
 | (j,_)::r,i,k=>Nat.beq j i&&seqFrom r (i+1) k
def fin(E:Env)(fn:Func)(outs:List Shape)(e:Ex)(s:St):Option (iv outs) :=
 match e with
 | .exit _=>none
 | .goto _=>none
 | _=>Bool.casesOn (outs.all fun o=>seqFrom o.sl 0 fn.results.size) none (iQ E.au (hget s.heap) (nthO (fn.results.toList.map (resAV s E.ti))) outs id)
def start{R:Type}(S:Shape)(n:Nat)(x:S.X)(K:St→R):R :=
 S.bZ x fun as h=>laySl as (cf n) fun sl=>K ⟨sl,h,db S.ob 0⟩
noncomputable def tq(E:Env)(fn:Func)(c:Code)(S:ah)(x:S.ins.X):Option (iv S.outs) :=
 start S.ins fn.ntmps x fun s=>exec E c none s (fin E fn S.outs)
end Go.Proofs.YthdgahpomhnidaaGreat.Mx

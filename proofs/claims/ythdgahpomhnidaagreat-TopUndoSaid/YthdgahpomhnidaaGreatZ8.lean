import Derived.Laws.StandIn
import Derived.Lib.BytesEntry
import Derived.Test.YthdgahpomhnidaaGreatZ7
set_option linter.unusedSimpArgs false
set_option linter.unusedVariables false
set_option autoImplicit false
namespace Go.Proofs.YthdgahpomhnidaaGreat.Mx
open Go
def uM(q : Nat) : Code := .region 0 #[{ dst := some 4, op := .assign (.const (.int .i64 0)), type := q, pos := "bytes.go:98", after := #[], guard := none }] false
def nX(t u q f : Nat) : Oper := { dst := some 7, op := .call { callee := .value (.func f), args := #[.tmp 5, .tmp 6], argTypes := #[t, u] }, type := q, pos := "bytes.go:99", after := #[{ on := 0, ground := .data }, { on := 1, ground := .data }], guard := none }
def qY(t u q f:Nat):Array Oper :=
  #[{ dst := some 5, op := .move (.tmp 0), type := t, pos := "bytes.go:99", after := #[], guard := none },
    { dst := some 6, op := .move (.tmp 1), type := u, pos := "bytes.go:99", after := #[], guard := none },
    nX t u q f,
    { dst := some 4, op := .assign (.tmp 7), type := q, pos := "bytes.go:99", after := #[{ on := 2, ground := .data }, { on := 2, ground := .chain }, { on := 0, ground := .phase }, { on := 1, ground := .phase }, { on := 2, ground := .phase }], guard := none }]
def EA(t u q f:Nat):Code:=.seq (uM q) (.seq (.region 1 (qY t u q f) false) .ret)
def Az:Shape:=⟨[(0,.c (.row (.int .u8))),(1,.c (.int .u8))],[]⟩
def gR:List Shape:=[⟨[(0,.c (.int .i64))],[]⟩]
def fD(l:List Int)(c:Int):Int:=match (List.range (ByteArray.mk (Go.Lib.bytesOf l).toArray).size).find? fun i=>(ByteArray.mk (Go.Lib.bytesOf l).toArray)[i]! == c.toNat.toUInt8 with
 | some i=>i
 | none=>-1
def Gu(l:List Int)(c:Int):Option (Int×Unit):=some (fD l c,())
variable {P:Program}
theorem ou{g:Gh}{w:World}{l:List Int}{c:Int}{v:Value}(h:VR g w.heap (.row (.int .u8) l) v):(Extern.BytealgIndexByte.indexByte #[v,.int .u8 c]).run P w=.ok (.int .i64 (fD l c)) w:=by
 obtain⟨A,cp,hV,hcp,hrow⟩:=h;simp only[List.cons.injEq,and_true]at hV;subst hV;have hb:(Extern.Bytes.bytesOf (.slice A l.length cp)).run P w=.ok ⟨(Go.Lib.bytesOf l).toArray⟩ w:=by
  cases A with
  | none =>
   have hl:l=[]:=by
    rcases hx:l with _ | ⟨y,ys⟩
    ·rfl
    ·obtain⟨b,o,cs,t',fz,us,rest,hA,_⟩:=hrow (by rw[hx];simp)
     cases hA
   subst hl;rfl
  | some a =>
   show (Extern.Bytes.loadBytes a l.length .empty).run P w=_;rw[Go.Lib.run_loadBytesX w l a .empty (fun j x hj=>?_)]
   ·have e0:ByteArray.empty.data++(Go.Lib.bytesOf l).toArray=(Go.Lib.bytesOf l).toArray:=by
     show #[]++(Go.Lib.bytesOf l).toArray=_;simp
    rw[e0]
   ·obtain⟨b,o,cs,t',fz,us,rest,hA,_,hc,hd,hR⟩:=hrow (fun e=>by rw[e]at hj;simp at hj)
    simp only[Option.some.injEq]at hA;subst hA;have key:∀(l:List Int) (us:List Value),RdL (Rd g.ro w.heap (.int .u8)) l us→∀(j:Nat) (x:Int),l[j]?=some x→us[j]?=some (Value.int .u8 x):=by
     intro l
     induction l with
     | nil=>intro us _ j x h;simp at h
     | cons y l ih =>
      intro us hR j x h;obtain⟨a,b,e,h1,h2⟩:=hR;have h1:a=[Value.int .u8 y]:=h1;subst h1;subst e;cases j with
      | zero=>simp at h;subst h;rfl
      | succ j=>simpa using ih b h2 j x (by simpa using h)
    have hu:=key l us hR j x hj;have hlt:j<us.length:=(List.getElem?_eq_some_iff.1 hu).1;have h3:cs[o+j]?=some (Value.int .u8 x):=by
     rw[←Array.getElem?_toList];have:=congrArg (fun l=>l[j]?) hd
     simp only[List.getElem?_drop]at this;rw[this,List.getElem?_append_left hlt,hu]
    rcases Nat.eq_zero_or_pos j with rfl | hp
    ·simpa [World.cell?,Addr.add,hc] using h3
    ·simpa [World.cell?,Addr.add,hc,Nat.ne_of_gt hp] using h3
 change Sem.run P (do
  let b ←Extern.Bytes.bytesOf (.slice A l.length cp)
  let c' ←Extern.Bytes.asByte (.int .u8 c)
  match (List.range b.size).find? fun i=>b[i]! == c' with
  | some i=>pure (goInt i)
  | none=>pure (goInt (-1))) w=_
 rw[Sem.run_bind,hb];show Sem.run P (match (List.range (ByteArray.mk (Go.Lib.bytesOf l).toArray).size).find? fun i=>(ByteArray.mk (Go.Lib.bytesOf l).toArray)[i]! == c.toNat.toUInt8 with
  | some i=>pure (goInt i)
  | none=>pure (goInt (-1))) w=_
 unfold fD;generalize List.find? _ _=F;cases F<;>rfl
theorem vV{f f2 : Nat}{fn fn2 : Func}{t u q : Nat}(E : Env)(hf : P.funcs[f]? = some fn)(hb : fn.body = some (EA t u q f2))(hname : (fn.name == "runtime.NumGoroutine") = false)(hord : P.follows .mixedOrders = true)(hnt : fn.ntmps = 8)
    (hf2 : P.funcs[f2]? = some fn2) (hname2 : (fn2.name == "runtime.NumGoroutine") = false) (hb2 : fn2.body.isNone = true) (hn2 : Extern.findNext fn2 = none) (he2 : Extern.find fn2 = some Extern.BytealgIndexByte.indexByte)
    (ok:dk P E) (hkeep:E.au=[])
    (h0:∀(l:List Int) (c:Int) {A:Type} (K:Ex→St→Option A),exec E (uM q) none ⟨[.v (.c (.row (.int .u8) l)),.v (.c (.int .u8 c)),.dead,.dead,.dead,.dead,.dead,.dead],[],0⟩ K=K .norm ⟨[.v (.c (.row (.int .u8) l)),.v (.c (.int .u8 c)),.dead,.dead,.v (.c (.int .i64 0)),.dead,.dead,.dead],[],16⟩)
    (hR:∀(l:List Int) (c n:Int),fin E fn gR .ret ⟨[.v (.c (.row (.int .u8) l)),.v (.c (.int .u8 c)),.dead,.dead,.v (.c (.int .i64 n)),.v (.c (.row (.int .u8) l)),.v (.c (.int .u8 c)),.v (.c (.int .i64 n))],[],80⟩=some (n,())) :
    Sound P f ⟨Az,gR,[],fun x=>Gu x.1 x.2.1⟩:=by
  refine⟨rfl,rfl,fun x r hr mt g w vs as os L M hmt hg hargs=>.inl ⟨?_,?_⟩⟩
  · have hbn:fn.body.isNone=false:=by rw[hb];rfl
    simp only[callFunc,Sem.run_bind,run_program,Result.andThen_ok,hf,hname,hbn,Bool.false_eq_true,if_false,Sem.run_pure]
  · obtain⟨rfl,rfl⟩:=L.same (as':=[(0,.c (.row (.int .u8) x.1)),(1,.c (.int .u8 x.2.1))]) (os':=[]) fun K=>rfl
    have hk0:∀n,¬n∈E.au→(gK [] g).φ n=none:=fun n _=>by
      show (if n∈([]:List Nat) then g.φ n else none)=none
      rw[if_neg (List.not_mem_nil)]
    have e0:Ext mt (gK [] g) w g w:=⟨rfl,rfl,rfl,Nat.le_refl _,fun _ _ _=>rfl,fun _ h=>h,fun _ h=>.inl h,fun n Q h=>by
      have h:(if n∈([]:List Nat) then g.φ n else none)=some Q:=h
      rw[if_neg (List.not_mem_nil)]at h;cases h⟩
    have hlast:∀(ex:Ex) (s':St),fin E fn gR ex s'=some r→∀a w',Inv mt (gK [] g) w [] (vs++Array.replicate (fn.ntmps-vs.size) undef).size s' a w' →
        bodyPost P fn (fun ed w2=>∃V,ed=.returned V∧kV gR r fun _ as' os'=>∃g',Ext mt (gK [] g) w g' w2∧Mem mt g' (hget os') w2.heap∧aV g' w2.heap (fG as') V) (ll ex) a w':=fun ex s' hk a w' hI=>by
      obtain⟨h2,h3,V,h4,h5⟩:=gJ ok.1 hk0 (outs:=gR) rfl hk hI;rcases h2 with h2 | h2
      · rw[h2];exact⟨h3,V,h4,V,rfl,h5⟩
      · rw[h2];exact⟨h3,V,h4,V,rfl,h5⟩
    refine calls_of_wp hf hb ?_;have hI0:Inv mt (gK [] g) w [] (vs++Array.replicate (fn.ntmps-vs.size) undef).size ⟨[.v (.c (.row (.int .u8) x.1)),.v (.c (.int .u8 x.2.1)),.dead,.dead,.dead,.dead,.dead,.dead],[],0⟩ {tmps:=vs++Array.replicate (fn.ntmps-vs.size) undef,defers:=[]} w:=by
      refine⟨g,e0,M,?_,?_,hg,rfl,rfl⟩
      · have:=iy (g:=g) (hp:=w.heap) (a:={tmps:=vs++Array.replicate (fn.ntmps-vs.size) undef,defers:=[]}) [(0,.c (.row (.int .u8) x.1)),(1,.c (.int .u8 x.2.1))] (cf 8) (fun i y hi=>?_) (fun t=>by rw[dO];trivial)
        · exact this
        · have h2:=hargs i y hi
          have:(vs++Array.replicate (fn.ntmps-vs.size) undef).getD i undef=vs.getD i undef:=by
            simp only[Array.getD_eq_getD_getElem?,Array.getElem?_append];split
            · rfl
            · rename_i hlt
              rw[Array.getElem?_eq_none (xs:=vs) (Nat.not_lt.1 hlt),Array.getElem?_replicate];split<;>rfl
          rw[this];exact h2
      · show 8≤_
        simp[hnt];omega
    refine wp_seq ?_;obtain⟨s1,h1,hw1⟩:=kX (mt:=mt) (g0:=gK [] g) (w0:=w) (ds:=[]) (N:=(vs++Array.replicate (fn.ntmps-vs.size) undef).size) ok hord hmt (h0 x.1 x.2.1 fun _ s=>some s)
    cases h1;refine hw1 _ (fun a w' hI=>?_) _ _ hI0
    refine wp_seq (wp_region ?_);obtain⟨g1,A⟩:=hI;show wpOps P (qY t u q f2) _ [0,1,2,3] a w';rw[wpOps_cons];refine jN (base:=16) ok A.mem (grown hmt A.ext) A.fA A.len (fun n h _=>A.nx n h) (i:=0) rfl (v:=.v (.c (.row (.int .u8) x.1))) (fp:=⟨[],[]⟩) rfl fun V2 w2 g2 e2 hφ2 M2 sl2=>?_
    have hl2:(putS [.v (.c (.row (.int .u8) x.1)),.v (.c (.int .u8 x.2.1)),.dead,.dead,.v (.c (.int .i64 0)),.dead,.dead,.dead] (some 5) (.v (.c (.row (.int .u8) x.1)))).length≤(a.put (some 5) V2).tmps.size:=by
      rw[bP];exact A.len
    rw[wpOps_cons];refine jN (base:=32) ok M2 (grown hmt (A.ext.trans e2)) sl2 hl2 (fun n h _=>by rw[hφ2 n (by simp only[keys];omega)];exact A.nx n (by show 16≤n;omega)) (i:=1) rfl (v:=.v (.c (.int .u8 x.2.1))) (fp:=⟨[],[]⟩) rfl fun V3 w3 g3 e3 hφ3 M3 sl3=>?_
    have hl3:(putS (putS [.v (.c (.row (.int .u8) x.1)),.v (.c (.int .u8 x.2.1)),.dead,.dead,.v (.c (.int .i64 0)),.dead,.dead,.dead] (some 5) (.v (.c (.row (.int .u8) x.1)))) (some 6) (.v (.c (.int .u8 x.2.1)))).length≤((a.put (some 5) V2).put (some 6) V3).tmps.size:=by
      rw[bP];exact hl2
    have hV5:VR g3 w3.heap (.row (.int .u8) x.1) (((a.put (some 5) V2).put (some 6) V3).eval (.tmp 5)):=sl3 5;have hV6:((a.put (some 5) V2).put (some 6) V3).eval (.tmp 6)=.int .u8 x.2.1:=sl3 6;have ex:(execOp ((a.put (some 5) V2).put (some 6) V3).eval (nX t u q f2)).run P w3=(callFunc f2 #[((a.put (some 5) V2).put (some 6) V3).eval (.tmp 5),((a.put (some 5) V2).put (some 6) V3).eval (.tmp 6)]).run P w3:=by
      unfold execOp nX;have hfv:((a.put (some 5) V2).put (some 6) V3).eval (.func f2)=.func (.func f2) #[] #[]:=rfl;simp only[resolve,hfv,Deferred.ofValue,Sem.run_bind,Sem.run_pure,Result.andThen_ok,invoke]
      first | rfl | (congr 2;first | rfl | simp)
    have hdoes:aT P (nX t u q f2) ((a.put (some 5) V2).put (some 6) V3) w3 (aY mt g3 w3 48 (hget []) (.v (.c (.int .i64 (fD x.1 x.2.1))))):=by
      refine aT.value (V:=.int .i64 (fD x.1 x.2.1)) (w':=w3) ?_ (aY.same M3 rfl);rw[ex,run_callFunc_indexByte hf2 hname2 hb2 hn2 he2,hV6,ou hV5];rfl
    rw[wpOps_cons];show wpOp P (qY t u q f2) _ 2 _ _ _;unfold wpOp;show (if Region.wanted _ (yielded (qY t u q f2) ((a.put (some 5) V2).put (some 6) V3).tmps)=true then _ else _)
    rw[if_pos (by rfl)]
    refine .inl (hdoes _ _ fun V4 w4 ⟨g4,e4,hφ4,M4,hv4⟩=>?_)
    have sl4:=dD.put (sl3.aL (e4.aL M3.ro)) hl3 hv4 (some 7);have hl4:(putS (putS (putS [.v (.c (.row (.int .u8) x.1)),.v (.c (.int .u8 x.2.1)),.dead,.dead,.v (.c (.int .i64 0)),.dead,.dead,.dead] (some 5) (.v (.c (.row (.int .u8) x.1)))) (some 6) (.v (.c (.int .u8 x.2.1)))) (some 7) (.v (.c (.int .i64 (fD x.1 x.2.1))))).length≤(((a.put (some 5) V2).put (some 6) V3).put (some 7) V4).tmps.size:=by
      rw[bP];exact hl3
    rw[wpOps_cons];refine jN (base:=64) ok M4 (grown hmt (((A.ext.trans e2).trans e3).trans e4)) sl4 hl4 (fun n h _=>by rw[hφ4 n (by simp only[keys];omega),hφ3 n (by simp only[keys];omega),hφ2 n (by simp only[keys];omega)];exact A.nx n (by show 16≤n;omega)) (i:=3) rfl (v:=.v (.c (.int .i64 (fD x.1 x.2.1)))) (fp:=⟨[],[]⟩) rfl fun V5 w5 g5 e5 hφ5 M5 sl5=>?_
    have hI5:Inv mt (gK [] g) w [] (vs++Array.replicate (fn.ntmps-vs.size) undef).size ⟨[.v (.c (.row (.int .u8) x.1)),.v (.c (.int .u8 x.2.1)),.dead,.dead,.v (.c (.int .i64 (fD x.1 x.2.1))),.v (.c (.row (.int .u8) x.1)),.v (.c (.int .u8 x.2.1)),.v (.c (.int .i64 (fD x.1 x.2.1)))],[],80⟩ ((((a.put (some 5) V2).put (some 6) V3).put (some 7) V4).put (some 4) V5) w5:=by
      refine⟨g5,(((A.ext.trans e2).trans e3).trans e4).trans e5,M5,sl5,?_,fun n hn=>?_,?_,?_⟩
      · rw[bP];exact hl4
      · have hn:80≤n:=hn
        rw[hφ5 n (by simp only[keys];omega),hφ4 n (by simp only[keys];omega),hφ3 n (by simp only[keys];omega),hφ2 n (by simp only[keys];omega)]
        exact A.nx n (by show 16≤n;omega)
      · rw[cS,cS,cS,cS];exact A.gz.1
      · rw[bP,bP,bP,bP];exact A.gz.2
    have hend:fin E fn gR .ret ⟨[.v (.c (.row (.int .u8) x.1)),.v (.c (.int .u8 x.2.1)),.dead,.dead,.v (.c (.int .i64 (fD x.1 x.2.1))),.v (.c (.row (.int .u8) x.1)),.v (.c (.int .u8 x.2.1)),.v (.c (.int .i64 (fD x.1 x.2.1)))],[],80⟩=some r:=by
      have hr:some (fD x.1 x.2.1,())=some r:=hr;rw[←hr];exact hR _ _ _
    exact(kE (mt:=mt) (g0:=gK [] g) (w0:=w) (ds:=[]) (N:=(vs++Array.replicate (fn.ntmps-vs.size) undef).size) ok hord hmt hk0 .ret).1 _ (fin E fn gR) r hend _ hlast _ _ hI5
end Go.Proofs.YthdgahpomhnidaaGreat.Mx

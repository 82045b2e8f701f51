import Derived.Lib.Bytealg
import Derived.Test.YthdgahpomhnidaaGreatZ9
set_option linter.unusedSimpArgs false
set_option linter.unusedVariables false
set_option autoImplicit false
namespace Go.Proofs.YthdgahpomhnidaaGreat.Mx
open Go
set_option maxRecDepth 4000
variable {P:Program}
def fK(l:List Int)(c:Int):Int:=((Go.Lib.bytesOf l).count c.toNat.toUInt8:Nat)
def cntF(l s:List Int):Option (Int×Unit):=match s with
 | [x]=>some (fK l x,())
 | _=>none
theorem qm{g:Gh}{w:World}{l:List Int}{v:Value}(h:VR g w.heap (.row (.int .u8) l) v):(Extern.Bytes.bytesOf v).run P w=.ok ⟨(Go.Lib.bytesOf l).toArray⟩ w:=by
 obtain⟨A,cp,hV,hcp,hrow⟩:=h;simp only[List.cons.injEq,and_true]at hV;subst hV;cases A with
 | none =>
  have hl:l=[]:=by
   rcases hx:l with _ | ⟨y,ys⟩
   ·rfl
   ·obtain⟨b,o,cs,t',fz,us,rest,hA,_⟩:=hrow (by rw[hx];simp)
    cases hA
  subst hl;rfl
 | some a =>
  show (Extern.Bytes.loadBytes a l.length .empty).run P w=_;rw[Go.Lib.run_loadBytesX w l a .empty (fun j x hj=>?_)]
  ·have e0:ByteArray.empty.data++(Go.Lib.bytesOf l).toArray=(Go.Lib.bytesOf l).toArray:=by
    show #[]++(Go.Lib.bytesOf l).toArray=_;simp
   rw[e0]
  ·obtain⟨b,o,cs,t',fz,us,rest,hA,_,hc,hd,hR⟩:=hrow (fun e=>by rw[e]at hj;simp at hj)
   simp only[Option.some.injEq]at hA;subst hA;have key:∀(l:List Int) (us:List Value),RdL (Rd g.ro w.heap (.int .u8)) l us→∀(j:Nat) (x:Int),l[j]?=some x→us[j]?=some (Value.int .u8 x):=by
    intro l
    induction l with
    | nil=>intro us _ j x h;simp at h
    | cons y l ih =>
     intro us hR j x h;obtain⟨a,b,e,h1,h2⟩:=hR;have h1:a=[Value.int .u8 y]:=h1;subst h1;subst e;cases j with
     | zero=>simp at h;subst h;rfl
     | succ j=>simpa using ih b h2 j x (by simpa using h)
   have hu:=key l us hR j x hj;have hlt:j<us.length:=(List.getElem?_eq_some_iff.1 hu).1;have h3:cs[o+j]?=some (Value.int .u8 x):=by
    rw[←Array.getElem?_toList];have:=congrArg (fun l=>l[j]?) hd
    simp only[List.getElem?_drop]at this;rw[this,List.getElem?_append_left hlt,hu]
   rcases Nat.eq_zero_or_pos j with rfl | hp
   ·simpa [World.cell?,Addr.add,hc] using h3
   ·simpa [World.cell?,Addr.add,hc,Nat.ne_of_gt hp] using h3
theorem sZ{g:Gh}{w:World}{l:List Int}{c:Int}{v:Value}(h:VR g w.heap (.row (.int .u8) l) v):(Extern.BytealgCount.count #[v,.int .u8 c]).run P w=.ok (.int .i64 (fK l c)) w:=by
 have hs:=Go.Lib.run_countString (P:=P) ⟨(Go.Lib.bytesOf l).toArray⟩ c w
 change Sem.run P (do
  let b ←Extern.Bytes.bytesOf v
  let c' ←Extern.Bytes.asByte (.int .u8 c)
  pure (goInt (b.foldl (fun n x=>if x==c' then n+1 else n) (0:Nat)))) w=_
 change Sem.run P (do
  let b ←Extern.Bytes.bytesOf (.string ⟨(Go.Lib.bytesOf l).toArray⟩)
  let c' ←Extern.Bytes.asByte (.int .u8 c)
  pure (goInt (b.foldl (fun n x=>if x==c' then n+1 else n) (0:Nat)))) w=_ at hs
 simp only[Sem.run_bind,qm h,Result.andThen_ok];simp only[Extern.Bytes.bytesOf,Sem.run_bind,Sem.run_pure,Result.andThen_ok]at hs;refine hs.trans ?_;unfold fK Go.Lib.countByte;simp
def zV:Shape:=⟨[(0,.c (.row (.int .u8))),(1,.c (.row (.int .u8)))],[]⟩
def v8(l:List Int):SV:=.v (.c (.row (.int .u8) l))
def vu(n:Int):SV:=.v (.c (.int .u8 n))
def uY(l:List Int)(x:Int):SH:=(((cf 35).set 0 (v8 l)).set 1 (v8 [x]),[])
def CZ(l:List Int)(x:Int):SH:=((uY l x).1.set 4 (vi 0),[])
def zL(l:List Int)(x:Int):SH:=((((CZ l x).1.set 7 (v8 [x])).set 8 (vi 1)).set 9 (vb false),[])
def xK(l:List Int)(x:Int):SH:=((((zL l x).1.set 13 (v8 [x])).set 14 (vi 1)).set 15 (vb true),[])
def wP(l:List Int)(x:Int):SH:=(((((xK l x).1.set 16 (v8 l)).set 17 (v8 [x])).set 18 (.v (.c (.rptr (.int .u8) [x] 0 0)))).set 19 (vu x),[])
def xr(l:List Int)(x n:Int):SH:=((wP l x).1.set 20 (vi n),[])
def xq(l:List Int)(x n:Int):SH:=((xr l x n).1.set 4 (vi n),[])
def EC(c X Y:Code):Code:=.seq (.region 0 (aq c 0) false) (.seq (.seq (.region 1 (aq c 1) false) (.cond (.tmp 9) X .skip)) (.seq (.seq (.region 3 (aq c 3) false) (.cond (.tmp 15) (.seq (.region 4 (aq c 4) false) .ret) .skip)) Y))
def HO:Code→Code
 | .seq _ (.seq (.seq _ (.cond _ X _)) _)=>X
 | _=>.skip
def HL:Code→Code
 | .seq _ (.seq _ (.seq _ Y))=>Y
 | _=>.skip
structure uS (E:Env) (c:Code) (f2 t u:Nat):Prop where
 s0:(aq c 0).size=1
 s1:(aq c 1).size=3
 s3:(aq c 3).size=3
 s4:(aq c 4).size=6
 oc:fb (aq c 4) 4 (some 20) (.call {callee:=.value (.func f2),args:=#[.tmp 16,.tmp 19],argTypes:=#[t,u]})
 h0:∀l x,aU E (aq c 0) (aq c 0).toList (uY l x) 0=some (CZ l x)
 h1:∀l x,aU E (aq c 1) (aq c 1).toList (CZ l x) 16=some (zL l x)
 h3:∀l x,aU E (aq c 3) (aq c 3).toList (zL l x) 64=some (xK l x)
 h4:∀l x,aU E (aq c 4) (((aq c 4).toList.drop 0).take 4) (xK l x) 112=some (wP l x)
 h5:∀l x n,aU E (aq c 4) ((aq c 4).toList.drop 5) (xr l x n) 192=some (xq l x n)
attribute [local irreducible] uY CZ zL xK wP xr xq
theorem vP{E : Env}{c X Y : Code}{f f2 t u : Nat}{fn fn2 : Func}(hf : P.funcs[f]? = some fn)(hb : fn.body = some (EC c X Y))(hname : (fn.name == "runtime.NumGoroutine") = false)(hnt : fn.ntmps = 35)(hres : fn.results = #[.tmp 4])
    (hf2 : P.funcs[f2]? = some fn2) (hname2 : (fn2.name == "runtime.NumGoroutine") = false) (hb2 : fn2.body.isNone = true) (hn2 : Extern.findNext fn2 = none) (he2 : Extern.find fn2 = some Extern.BytealgCount.count)
    (T:uS E c f2 t u) (ok:dk P E) (hkeep:E.au=[]) :
    Sound P f ⟨zV,c6,[],fun x=>cntF x.1 x.2.1⟩:=by
  refine⟨rfl,rfl,fun x res hr mt g w vs as os L M hmt hg hargs=>.inl ⟨?_,?_⟩⟩
  · have hbn:fn.body.isNone=false:=by rw[hb];rfl
    simp only[callFunc,Sem.run_bind,run_program,Result.andThen_ok,hf,hname,hbn,Bool.false_eq_true,if_false,Sem.run_pure]
  · obtain⟨l,s,uu⟩:=x
    have hr:cntF l s=some res:=hr;obtain⟨x,rfl⟩:∃x,s=[x]:=by
      unfold cntF at hr;split at hr
      · exact⟨_,rfl⟩
      · cases hr
    have hr:some (fK l x,())=some res:=hr;cases hr;obtain⟨rfl,rfl⟩:=L.same (as':=[(0,.c (.row (.int .u8) l)),(1,.c (.row (.int .u8) [x]))]) (os':=[]) fun K=>rfl
    have e0:Ext mt (gK [] g) w g w:=⟨rfl,rfl,rfl,Nat.le_refl _,fun _ _ _=>rfl,fun _ h=>h,fun _ h=>.inl h,fun n Q h=>by rw[gV]at h;cases h⟩
    refine calls_of_wp hf hb ?_;have hsz:35≤(vs++Array.replicate (fn.ntmps-vs.size) undef).size:=by simp[hnt];omega
    have A0:bV mt (gK [] g) w (hget (uY l x).2) (uY l x).1 0 [] (vs++Array.replicate (fn.ntmps-vs.size) undef).size {tmps:=vs++Array.replicate (fn.ntmps-vs.size) undef,defers:=[]} w g:=by
      rw[show (uY l x).1=((cf 35).set 0 (v8 l)).set 1 (v8 [x]) by kernel_rfl,show (uY l x).2=[] by kernel_rfl]
      refine⟨e0,M,?_,?_,hg,rfl,rfl⟩
      · have:=iy (g:=g) (hp:=w.heap) (a:={tmps:=vs++Array.replicate (fn.ntmps-vs.size) undef,defers:=[]}) [(0,.c (.row (.int .u8) l)),(1,.c (.row (.int .u8) [x]))] (cf 35) (fun i y hi=>?_) (fun t=>by rw[dO];trivial)
        · exact this
        · have h2:=hargs i y hi
          have:(vs++Array.replicate (fn.ntmps-vs.size) undef).getD i undef=vs.getD i undef:=by
            simp only[Array.getD_eq_getD_getElem?,Array.getElem?_append];split
            · rfl
            · rename_i hlt
              rw[Array.getElem?_eq_none (xs:=vs) (Nat.not_lt.1 hlt),Array.getElem?_replicate];split<;>rfl
          rw[this];exact h2
      · show (((cf 35).set 0 (v8 l)).set 1 (v8 [x])).length≤_
        rw[List.length_set,List.length_set,fS];exact hsz
    generalize (vs++Array.replicate (fn.ntmps-vs.size) undef).size=N at hsz A0;generalize ({tmps:=vs++Array.replicate (fn.ntmps-vs.size) undef,defers:=[]}:Act)=a0 at A0 ⊢;refine wp_seq (cU ok hmt (ts:=[]) (T.h0 l x) (cK _) A0 fun a1 w1 g1 A1 _=>?_)
    rw[T.s0]at A1;refine wp_seq (wp_seq (cU ok hmt (ts:=[]) (T.h1 l x) (cK _) A1 fun a2 w2 g2 A2 _=>?_))
    rw[T.s1]at A2;have b9:a2.eval (.tmp 9)=.bool false:=by
      have h1:=aM A2.fA (.tmp 9);rw[show rd (zL l x).1 (.tmp 9)=vb false by kernel_rfl]at h1
      exact h1
    refine wp_cond_false b9 (wp_skip ?_);refine wp_seq (wp_seq (cU ok hmt (ts:=[]) (T.h3 l x) (cK _) A2 fun a3 w3 g3 A3 _=>?_))
    rw[T.s3]at A3;have b15:a3.eval (.tmp 15)=.bool true:=by
      have h1:=aM A3.fA (.tmp 15);rw[show rd (xK l x).1 (.tmp 15)=vb true by kernel_rfl]at h1
      exact h1
    refine wp_cond_true b15 (wp_seq (wp_region ?_));rw[T.s4];show wpOps P (aq c 4) _ (idx 0 4++(4::(idx 5 1++[]))) a3 w3;have hl0:(((aq c 4).toList.drop 0).take 4).length=4:=by simp[T.s4]
    have hl5:((aq c 4).toList.drop 5).length=1:=by simp[T.s4]
    have cut:∀{i n:Nat} (k:Nat) (o:Oper),(((aq c 4).toList.drop i).take n)[k]?=some o→(aq c 4)[i+k]?=some o:=fun k o h=>by
      rw[List.getElem?_take]at h;split at h
      · rw[List.getElem?_drop,Array.getElem?_toList]at h;exact h
      · cases h
    have key:∀Q:Exit→Act→World→Prop,(∀a' w' g',bV mt (gK [] g) w (hget (xq l x (fK l x)).2) (xq l x (fK l x)).1 208 [] N a' w' g'→Q .normal a' w') →
        wpOps P (aq c 4) Q (idx 0 (((aq c 4).toList.drop 0).take 4).length++(4::(idx 5 1++[]))) a3 w3:=fun Q hQ=>by
      refine cW ok hmt (i:=0) (next:=112) (ts:=[]) (s:=xK l x) (r:=wP l x) cut (cK _) (T.h4 l x) A3 fun a4 w4 g4 A4 _=>?_
      rw[hl0]at A4;have h16:VR g4 w4.heap (.row (.int .u8) l) (a4.tmps.getD 16 undef):=by
        have h:=A4.fA 16;rw[show getS (wP l x).1 16=v8 l by kernel_rfl]at h
        exact h
      have h19:a4.tmps.getD 19 undef=.int .u8 x:=by
        have h:=A4.fA 19;rw[show getS (wP l x).1 19=vu x by kernel_rfl]at h
        exact h
      obtain⟨oC,c1,c2,c3,c4⟩:=T.oc.get;have hrun:(execOp a4.eval oC).run P w4=.ok (.value (.int .i64 (fK l x))) w4:=by
        have h0:(execOp a4.eval oC).run P w4=(callFunc f2 #[a4.tmps.getD 16 undef,a4.tmps.getD 19 undef]).run P w4:=by
          unfold execOp;rw[c4];have hfv:a4.eval (.func f2)=.func (.func f2) #[] #[]:=rfl;have e6:Array.map a4.eval #[Operand.tmp 16,Operand.tmp 19]=#[a4.tmps.getD 16 undef,a4.tmps.getD 19 undef]:=by
            simp only[List.map_toArray,List.map_cons,List.map_nil];rfl
          simp only[resolve,hfv,Deferred.ofValue,Sem.run_bind,Sem.run_pure,Result.andThen_ok,invoke,e6]
          first | rfl | (congr 2;first | rfl | simp)
        rw[h0,run_callFunc_extern hf2 hname2 hb2 hn2 he2,h19,sZ h16];rfl
      refine gW c1 c2 hrun ?_;rw[c3];have A5:=A4.l9 (v:=vi (fK l x)) (V:=.int .i64 (fK l x)) rfl (some 20) (sl':=(xr l x (fK l x)).1) (H':=hget (xr l x (fK l x)).2) (nx':=112+keys*5) (by kernel_rfl) (by kernel_rfl) (by simp only[keys];omega)
      have key5:wpOps P (aq c 4) Q (idx 5 ((aq c 4).toList.drop 5).length++[]) (a4.put (some 20) (.int .i64 (fK l x))) w4:=by
        refine cW ok hmt (i:=5) (next:=112) (ts:=[]) (s:=xr l x (fK l x)) (r:=xq l x (fK l x)) (fun k o h=>?_) (cK _) (T.h5 l x _) A5 fun a6 w6 g6 A6 _=>?_
        · rw[List.getElem?_drop,Array.getElem?_toList]at h;exact h
        · rw[hl5]at A6
          exact hQ a6 w6 g6 A6
      rw[hl5]at key5;exact key5
    rw[hl0]at key;refine key _ fun a' w' g' A=>?_
    refine wp_ret ?_;obtain⟨_,h3,V',h4,h5⟩:=gJ (P:=P) (mt:=mt) (g0:=gK [] g) (w0:=w) (ds:=[]) (N:=N) ok.1 (fun n _=>gV n) (outs:=c6) rfl (rO (s:=xq l x (fK l x)) (nx:=208) hkeep hres (by kernel_rfl)) ⟨g',A⟩
    exact⟨h3,V',h4,V',rfl,h5⟩
end Go.Proofs.YthdgahpomhnidaaGreat.Mx

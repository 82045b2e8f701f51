import Derived.WideKeyRuns
import Derived.Test.YthdgahpomhnidaaGreatZ8
set_option linter.unusedSimpArgs false
set_option linter.unusedVariables false
set_option autoImplicit false
namespace Go.Proofs.YthdgahpomhnidaaGreat.Mx
open Go
variable {P:Program}
def aU(E:Env)(ops:Array Oper)(os:List Oper)(s:List SV×aK)(base:Nat):Option (List SV×aK):=runOps E ops.toList os s.1 s.2 base [] fun sl h _=>some (sl,h)
def Kept(ts:List Nat)(a a':Act):Prop:=∀t,t∈ts→a'.tmps.getD t undef=a.tmps.getD t undef
def cT(ts:List Nat)(os:List Oper):Bool:=os.all fun o=>!(dstIn o.dst ts)
theorem kL{a:Act}{d:Option Nat}{V:Value}{ts:List Nat}(h:(!(dstIn d ts))=true):Kept ts a (a.put d V):=fun t ht=>by
 cases d with
 | none=>rfl
 | some n =>
  have hne:n≠t:=fun e=>by
   subst e;simp only[dstIn,Bool.not_eq_true',List.any_eq_false]at h;exact h n ht (bT n)
  simp only[Act.put,Array.getD_eq_getD_getElem?,Array.getElem?_setIfInBounds_ne hne]
section
variable {mt:Nat→Prop} {g0:Gh} {w0:World} {ds:List Deferred} {N:Nat} {E:Env} {ops:Array Oper} {Q:Exit→Act→World→Prop}
theorem xf(ok:dk P E)(hm0:∀b,w0.heap.size≤b→mt b){next:Nat}{ts:List Nat}{js:List Nat}:∀(os:List Oper) (i:Nat) (sl:List SV) (h:aK) (fps:List FP) (r:List SV×aK),(∀k o,os[k]?=some o→ops[i+k]?=some o)→cT ts os=true →
  runOps E ops.toList os sl h (next+keys*i) fps (fun sl h _=>some (sl,h))=some r→∀(a:Act) (w:World) (g:Gh),bV mt g0 w0 (hget h) sl (next+keys*i) ds N a w g →
  (∀a' w' g',bV mt g0 w0 (hget r.2) r.1 (next+keys*(i+os.length)) ds N a' w' g'→Kept ts a a'→wpOps P ops Q js a' w')→wpOps P ops Q (idx i os.length++js) a w
 | [],i,sl,h,fps,r,_,_,hr,a,w,g,A,hK=>by
  simp only[runOps,Option.some.injEq]at hr;subst hr;exact hK a w g A (fun _ _=>rfl)
 | o::os,i,sl,h,fps,r,ho,hd,hr,a,w,g,A,hK=>by
  obtain⟨v,h1,fp,h2,h3⟩:=vl (show stepOp E ops.toList o sl h (next+keys*i) (fun sl' h' fp=>runOps E ops.toList os sl' h' (next+keys*i+keys) (fp::fps) (fun sl h _=>some (sl,h)))=some r from hr)
  rw[show next+keys*i+keys=next+keys*(i+1) by rw[Nat.mul_add,Nat.mul_one,Nat.add_assoc]]at h3
  show wpOps P ops Q (i::(idx (i+1) os.length++js)) a w;rw[wpOps_cons];simp only[cT,List.all_cons,Bool.and_eq_true]at hd;have ho0:ops[i]?=some o:=ho 0 o rfl;refine jN ok A.mem (grown hm0 A.ext) A.fA A.len (fun n h1 _=>A.nx n h1) ho0 h2 fun V w' g' e hφ M' hsl'=>?_
  refine xf ok hm0 os (i+1) _ h1 (fp::fps) r (fun k o' hk=>by rw[show i+1+k=i+(k+1) by omega];exact ho (k+1) o' (by simpa using hk)) hd.2 h3 _ w' g' ⟨A.ext.trans e,M',hsl',by rw[pV,bP];exact A.len,fun n hn=>?_,by rw[cS,bP];exact A.gz⟩ fun a' w2 g2 A2 k2=>?_
  ·rw[Nat.mul_add,Nat.mul_one,←Nat.add_assoc]at hn
   rw[hφ n (by simp only[keys]at *;omega)]
   exact A.nx n (by simp only[keys]at *;omega)
  ·rw[show i+1+os.length=i+(o::os).length by simp only[List.length_cons];omega]at A2
   exact hK a' w2 g2 A2 fun t ht=>(k2 t ht).trans (kL hd.1 t ht)
theorem cW(ok:dk P E)(hm0:∀b,w0.heap.size≤b→mt b){next i:Nat}{ts js:List Nat}{os:List Oper}{s r:List SV×aK}(ho:∀k o,os[k]?=some o→ops[i+k]?=some o)(hd:cT ts os=true)
  (hr:aU E ops os s (next+keys*i)=some r) {a:Act} {w:World} {g:Gh} (A:bV mt g0 w0 (hget s.2) s.1 (next+keys*i) ds N a w g)
  (hK:∀a' w' g',bV mt g0 w0 (hget r.2) r.1 (next+keys*(i+os.length)) ds N a' w' g'→Kept ts a a'→wpOps P ops Q js a' w'):wpOps P ops Q (idx i os.length++js) a w :=
 xf ok hm0 os i s.1 s.2 [] r ho hd hr a w g A hK
theorem cU(ok:dk P E)(hm0:∀b,w0.heap.size≤b→mt b){id next:Nat}{ts:List Nat}{s r:List SV×aK}(hr:aU E ops ops.toList s next=some r)(hd:cT ts ops.toList=true){a:Act}{w:World}{g:Gh}
  (A:bV mt g0 w0 (hget s.2) s.1 next ds N a w g) (hK:∀a' w' g',bV mt g0 w0 (hget r.2) r.1 (next+keys*ops.size) ds N a' w' g'→Kept ts a a'→Q .normal a' w'):(Code.region id ops false).wp P Q a w:=by
 refine wp_region ?_;have e:List.range ops.size=idx 0 ops.toList.length++[]:=by rw[jr,List.range_eq_range'];simp
 rw[e];refine cW ok hm0 (next:=next) (i:=0) (fun k o h=>by rw[Nat.zero_add,←Array.getElem?_toList];exact h) hd (by rw[Nat.mul_zero,Nat.add_zero];exact hr) (by rw[Nat.mul_zero,Nat.add_zero];exact A) fun a' w' g' A' k=>?_
 rw[Nat.zero_add,show ops.toList.length=ops.size by simp]at A'
 exact hK a' w' g' A' k
theorem gW{i:Nat}{is:List Nat}{o:Oper}{a:Act}{w w':World}{V:Value}(ho:ops[i]?=some o)(hg:o.guard=none)(h:(execOp a.eval o).run P w=.ok (.value V) w')(hK:wpOps P ops Q is (a.put o.dst V) w'):wpOps P ops Q (i::is) a w:=by
 rw[wpOps_cons];unfold wpOp;rw[ho]
 simp only
 rw[if_pos (by simp[Region.wanted,hg])]
 refine .inl ?_;unfold Oper.wp;rw[h];exact hK
theorem tR{i:Nat}{is:List Nat}{o:Oper}{a:Act}{w w':World}(ho:ops[i]?=some o)(hg:o.guard=none)(h:(execOp a.eval o).run P w=.ok .skip w')(hK:wpOps P ops Q is (a.put o.dst undef) w'):wpOps P ops Q (i::is) a w:=by
 rw[wpOps_cons];unfold wpOp;rw[ho]
 simp only
 rw[if_pos (by simp[Region.wanted,hg])]
 refine .inl ?_;unfold Oper.wp;rw[h];exact hK
theorem bV.put{H:HF}{sl:List SV}{nx nx':Nat}{a:Act}{w:World}{g:Gh}(A:bV mt g0 w0 H sl nx ds N a w g){v:SV}{V:Value}(hv:aV g w.heap v V)(d:Option Nat)(hn:nx≤nx'):bV mt g0 w0 H (putS sl d v) nx' ds N (a.put d V) w g :=
 ⟨A.ext,A.mem,dD.put A.fA A.len hv d,by rw[pV,bP];exact A.len,fun n h=>A.nx n (Nat.le_trans hn h),by rw[cS,bP];exact A.gz⟩
theorem bV.l9{H H':HF}{sl sl':List SV}{nx nx':Nat}{a:Act}{w:World}{g:Gh}(A:bV mt g0 w0 H sl nx ds N a w g){v:SV}{V:Value}(hv:aV g w.heap v V)(d:Option Nat)(hs:putS sl d v=sl')(hH:H=H')(hn:nx≤nx'):bV mt g0 w0 H' sl' nx' ds N (a.put d V) w g:=by
 subst hs hH;exact A.put hv d hn
theorem cK(os:List Oper):cT [] os=true:=by
 unfold cT;rw[List.all_eq_true];intro o _;cases o.dst<;>rfl
theorem AO{K:Act→World→Prop}{Q:Exit→Act→World→Prop}{i:Nat}{a:Act}{w:World}(h:Q (.exit i) a w):Exit.then K Q (.exit i) a w:=h
theorem qx{Q:Exit→Act→World→Prop}{i:Nat}{a:Act}{w:World}(h:Q .normal a w):Exit.inBlock i Q (.exit i) a w:=by
 unfold Exit.inBlock
 simp only
 rw[if_pos trivial];exact h
theorem jT{a:Act}{n:Nat}{V:Value}(h:n<a.tmps.size):(a.put (some n) V).tmps.getD n undef=V:=by
 simp[Act.put,Array.getD_eq_getD_getElem?,h]
end
theorem Mem.GF{mt:Nat→Prop}{g:Gh}{H:HF}{hp hp':HP}{r:Nat}(M:Mem mt g H hp)(hr:¬g.ro r)(hm:¬mt r)(hs:hp.size≤hp'.size)(hk:∀b,b≠r→b<hp.size→hp'[b]?=hp[b]?):Mem mt g H hp'∧cA g hp g hp':=by
 have st:cA g hp g hp':=⟨fun _ h=>h,fun b h=>hk b (fun e=>hr (e▸h)) (M.ro b h),fun _ _ h=>h⟩
 refine⟨⟨fun n o h=>?_,M.own,M.bF,M.sep,fun b h=>Nat.lt_of_lt_of_le (M.ro b h) hs⟩,st⟩
 obtain⟨Q,h1,h2⟩:=M.obj n o h;refine⟨Q,h1,h2.aL st fun b hb=>hk b (fun e=>?_) (h2.lt b hb)⟩
 subst e;cases hi:o.dA with
 | false=>exact hm (M.own n o Q b h hi h1 hb).1
 | true=>exact hr (M.bF n o Q b h hi h1 hb)
theorem Mem.less{mt mt':Nat→Prop}{g:Gh}{H:HF}{hp:HP}(M:Mem mt g H hp)(h:∀b,b<hp.size→mt b→mt' b):Mem mt' g H hp:=by
 refine⟨M.obj,fun n o Q b h1 h2 h3 h4=>?_,M.bF,M.sep,M.ro⟩
 obtain⟨k1,k2⟩:=M.own n o Q b h1 h2 h3 h4;obtain⟨Q',q1,q2⟩:=M.obj n o h1;rw[h3]at q1;cases q1;exact⟨h b (q2.lt b h4) k1,k2⟩
theorem Ext.more{mt mt':Nat→Prop}(h:∀b,mt b→mt' b){g g':Gh}{w w':World}(e:Ext mt g w g' w'):Ext mt' g w g' w' :=
 ⟨e.os,e.tape,e.output,e.size,fun b hb hk=>e.au b hb (hk.imp (fun q p=>q (h b p)) id),e.ro,fun b hb=>(e.dr b hb).imp id (h b),e.jm⟩
abbrev bM:=Int×Int×Int×Int
def mB:Ty:=.prod (.int .i64) (.prod (.int .i64) (.prod (.int .i64) (.int .i64)))
def gH(k:bM):Value:=.agg #[.int .i64 k.1,.int .i64 k.2.1,.int .i64 k.2.2.1,.int .i64 k.2.2.2]
def k4:List SK:=[.int .i64,.int .i64,.int .i64,.int .i64]
def kQ(w:World)(r:Nat)(ks:List bM):Prop:=∃es clock,w.heap[r]?=some (.map es clock)∧es.toList.map (·.key)=ks.map gH
theorem Gp{tX:Nat}(eq:ic P tX k4)(w:World)(k y:bM):(Op.equal tX (gH k) (gH y)).run P w=.ok (decide (k=y)) w:=by
 obtain⟨a,b,c,d⟩:=k;obtain⟨a',b',c',d'⟩:=y;have h:=eq.eq w [.int .i64 a,.int .i64 b,.int .i64 c,.int .i64 d] [.int .i64 a',.int .i64 b',.int .i64 c',.int .i64 d'] ⟨⟨_,rfl⟩,⟨_,rfl⟩,⟨_,rfl⟩,⟨_,rfl⟩,trivial⟩ ⟨⟨_,rfl⟩,⟨_,rfl⟩,⟨_,rfl⟩,⟨_,rfl⟩,trivial⟩;have e:eqV [Value.int .i64 a,.int .i64 b,.int .i64 c,.int .i64 d] [.int .i64 a',.int .i64 b',.int .i64 c',.int .i64 d']=decide ((a,b,c,d)=(a',b',c',d')):=by
  rw[Bool.eq_iff_iff];simp[eqV,Prod.mk.injEq]
 rw[e]at h;exact h
theorem ia{tX:Nat}(eq:ic P tX k4)(w:World)(k:bM):∀(es:List MapEntry) (ks:List bM) (i:Nat),es.map (·.key)=ks.map gH→∃res:Option (Nat×Value),(Instr.findAsking tX (gH k) es i).run P w=.ok res w∧res.isSome=decide (k∈ks)
 | [],ks,i,h=>by
  have:ks=[]:=by cases ks<;>simp_all
  subst this;exact⟨none,rfl,by simp⟩
 | e::es,[],i,h=>by cases h
 | e::es,y::ks,i,h=>by
  simp only[List.map_cons,List.cons.injEq]at h;obtain⟨res,h1,h2⟩:=ia eq w k es ks (i+1) h.2;rw[Instr.findAsking,Sem.run_bind,h.1,Gp eq w k y,Result.andThen_ok]
  by_cases q:k=y
  ·refine⟨some (i,e.val),by simp[q],by simp[q]⟩
  ·refine⟨res,by simp only[q,decide_false,Bool.false_eq_true,if_false];exact h1,by rw[h2];simp[q]⟩
section
variable {tM tX tI:Nat} (hmap:P.underlying tM=some (.map tX tI)) (hwide:(match P.underlying tX with | some (.array _ _) | some (.struct _)=>true | _=>false)=true) (eq:ic P tX k4)
 (hchk:∀(em:Bool) (k:bM) (w:World),(Instr.checkKey em 10000 tX (gH k)).run P w=.ok () w)
include hmap hwide eq hchk
theorem vX(hzero:∀w,(zeroValue tI).run P w=.ok (.int .i64 0) w){w:World}{r:Nat}{ks:List bM}(hM:kQ w r ks)(k:bM):∃v,(Instr.lookup tM (.map (some r)) (gH k) true).run P w=.ok (.tuple #[v,.bool (decide (k∈ks))]) w:=by
 obtain⟨es,clock,hb,he⟩:=hM;obtain⟨res,h1,h2⟩:=ia eq w k es.toList ks 0 he;rw[←run_findKey_eq w hwide]at h1;unfold Instr.lookup;simp only[Sem.run_bind,run_underlying hmap,Result.andThen_ok,MapKept.run_getObj_map hb,Sem.run_pure,hchk,h1];cases res with
 | none =>
  have:decide (k∈ks)=false:=by rw[←h2];rfl
  exact⟨.int .i64 0,by simp only[this,Sem.run_bind,hzero,Result.andThen_ok,Sem.run_pure,if_true]⟩
 | some p =>
  have:decide (k∈ks)=true:=by rw[←h2];rfl
  exact⟨p.2,by simp only[this,Sem.run_bind,Result.andThen_ok,Sem.run_pure,if_true]⟩
theorem wA{w:World}{r:Nat}{ks:List bM}(hM:kQ w r ks)(k:bM)(hk:k∉ks)(v:Value):∃w',(Instr.mapUpdate tM (.map (some r)) (gH k) v).run P w=.ok () w'∧kQ w' r (ks++[k])∧w'.heap.size=w.heap.size∧(∀b,b≠r→w'.heap[b]?=w.heap[b]?)∧w'.os=w.os∧w'.tape=w.tape∧w'.output=w.output:=by
 obtain⟨es,clock,hb,he⟩:=hM;obtain⟨res,h1,h2⟩:=ia eq w k es.toList ks 0 he;rw[←run_findKey_eq w hwide]at h1;have:res=none:=by
  cases res with
  | none=>rfl
  | some p=>simp[hk]at h2
 subst this;have hlt:r<w.heap.size:=fT hb;refine⟨{w with heap:=w.heap.setIfInBounds r (.map (es.push {key:=gH k,val:=v,born:=clock}) (clock+1))},?_,⟨es.push {key:=gH k,val:=v,born:=clock},clock+1,by simp[hlt],by simp[he]⟩,by simp,fun b hne=>?_,rfl,rfl,rfl⟩
 ·unfold Instr.mapUpdate
  simp only[Sem.run_bind,run_underlying hmap,Result.andThen_ok,MapKept.run_getObj_map hb,hchk,h1,MapKept.run_setObj_map _ hb]
 ·simp only
  rw[Array.getElem?_setIfInBounds_ne (Ne.symm hne)]
end
end Go.Proofs.YthdgahpomhnidaaGreat.Mx
namespace Go.Proofs.YthdgahpomhnidaaGreat.Mx
open Go
set_option maxRecDepth 4000
variable {P:Program}
def uy:Ty:=.prod (.int .i64) (.prod (.int .i64) (.prod (.int .i64) (.prod (.int .i64) (.prod (.int .i64) (.prod (.int .i64) (.prod (.int .i64) (.prod (.int .i64) (.prod (.int .i64) (.prod (.int .i64) (.int .i64))))))))))
def zT:Shape:=⟨[(0,.agg [.int .i64,.int .i64,.int .i64,.int .i64,.row (.int .u8),.row uy,.row mB,.int .i64,.int .i64,.int .i64,.int .i64])],[]⟩
def iP:List Shape:=[⟨[(0,.c .bool)],[]⟩]
abbrev CO:=Int×Int×Int×Int×Int×Int×Int×Int×Int×Int×Int
abbrev bq:=Int×Int×Int×Int×List Int×List CO×List bM×Int×Int×Int×Int×Unit
abbrev its(x:bq):List bM:=x.2.2.2.2.2.2.1
abbrev R5:=Int×Int×Int×Int×Unit
def wl(x:bq):List CV:=[.int .i64 x.1,.int .i64 x.2.1,.int .i64 x.2.2.1,.int .i64 x.2.2.2.1,.row (.int .u8) x.2.2.2.2.1,.row uy x.2.2.2.2.2.1,.row mB (its x),.int .i64 x.2.2.2.2.2.2.2.1,.int .i64 x.2.2.2.2.2.2.2.2.1,.int .i64 x.2.2.2.2.2.2.2.2.2.1,.int .i64 x.2.2.2.2.2.2.2.2.2.2.1]
def il(y:bM):List CV:=[.int .i64 y.1,.int .i64 y.2.1,.int .i64 y.2.2.1,.int .i64 y.2.2.2]
def rk(r:R5):bM:=(r.1,r.2.1,r.2.2.1,r.2.2.2.1)
def chkGo(pl:bM→Option R5)(my:bM→Option (Bool×Unit)):List bM→List bM→Option Bool
 | [],_=>some true
 | y::l,ks=>if y=(0,0,0,0) then chkGo pl my l ks else
  match pl y with
  | none=>none
  | some r=>if rk r∈ks then some false else
   match my y with
   | none=>none
   | some b=>if b.1=true then chkGo pl my l (ks++[rk r]) else some false
def tN(pl:bM→Option R5)(my:bq→bM→Option (Bool×Unit))(x:bq):Option (Bool×Unit) :=
 if (its x).length=40 then (chkGo pl (my x) (its x) []).map fun b=>(b,()) else some (false,())
def iO:Code→Nat→Option (Array Oper)
 | .region id ops _,n=>Bool.casesOn (Nat.beq id n) none (some ops)
 | .seq a b,n=>match iO a n with
  | some o=>some o
  | none=>iO b n
 | .cond _ a b,n=>match iO a n with
  | some o=>some o
  | none=>iO b n
 | .block _ a,n=>iO a n
 | .loop a,n=>iO a n
 | _,_=>none
def aq(c:Code)(n:Nat):Array Oper:=match iO c n with
 | some o=>o
 | none=>#[]
def F0(c:Code):Code:=.seq (.region 6 (aq c 6) false) (.seq (.seq (.region 7 (aq c 7) false) (.cond (.tmp 23) (.exit 1) .skip)) (.seq (.seq (.region 8 (aq c 8) false) (.seq (.region 9 (aq c 9) false) (.cond (.tmp 37) (.seq (.region 10 (aq c 10) false) .ret) .skip))) (.region 11 (aq c 11) false)))
def uR(c:Code):Code:=.seq (.region 5 (aq c 5) false) (.seq (.cond (.tmp 17) .skip (.exit 0)) (.seq (.block 1 (F0 c)) (.region 12 (aq c 12) false)))
def Er(c:Code):Code:=.seq (.region 0 (aq c 0) false) (.seq (.seq (.region 1 (aq c 1) false) (.cond (.tmp 11) (.seq (.region 2 (aq c 2) false) .ret) .skip))
 (.seq (.region 3 (aq c 3) false) (.seq (.seq (.region 4 (aq c 4) false) (.block 0 (.loop (uR c)))) (.seq (.region 13 (aq c 13) false) .ret))))
def fb(R:Array Oper)(i:Nat)(d:Option Nat)(op:Op):Prop:=(R[i]?).map (fun o=>(o.guard,o.dst,o.op))=some (none,d,op)
theorem fb.get{R:Array Oper}{i:Nat}{d:Option Nat}{op:Op}(h:fb R i d op):∃o,R[i]?=some o∧o.guard=none∧o.dst=d∧o.op=op:=by
 unfold fb at h;cases ho:R[i]? with
 | none=>rw[ho]at h;cases h
 | some o =>
  rw[ho]at h;simp only[Option.map_some,Option.some.injEq,Prod.mk.injEq]at h;exact⟨o,rfl,h.1,h.2.1,h.2.2⟩
abbrev SH:=List SV×aK
def vi(n:Int):SV:=.v (.c (.int .i64 n))
def vb(b:Bool):SV:=.v (.c (.bool b))
def vp(n o:Nat):SV:=.v (.c (.ptr n o))
def vr(l:List bM):SV:=.v (.c (.row mB l))
def va(l:List CV):SV:=.v (.agg l)
def q0(x:bq):SH:=((cf 43).set 0 (va (wl x)),[])
def gS(x:bq):aK:=[(0,.box (wl x))]
def q1(x:bq):SH:=(((q0 x).1.set 1 (vp 0 0)).set 2 (vb false),gS x)
def q2(x:bq):SH:=(((((q1 x).1.set 8 (vp 0 6)).set 9 (vr (its x))).set 10 (vi ((its x).length:Nat))).set 11 (vb (((its x).length:Int) !=40)),gS x)
def q3(x:bq):SH:=(((q2 x).1.set 12 .dead).set 3 .dead,gS x)
def q4(x:bq):SH:=(((((q3 x).1.set 13 (vp 0 6)).set 14 (vr (its x))).set 15 (vi ((its x).length:Nat))).set 16 (vi 0),gS x)
def qh(x:bq)(i:Int):SH:=((((((cf 43).set 1 (vp 0 0)).set 2 (vb false)).set 14 (vr (its x))).set 15 (vi ((its x).length:Nat))).set 16 (vi i),gS x)
def kA:Shape:=⟨[(1,.c (.ptr 0 0)),(2,.c .bool),(14,.c (.row mB)),(15,.c (.int .i64)),(16,.c (.int .i64))],[(0,.box [.int .i64,.int .i64,.int .i64,.int .i64,.row (.int .u8),.row uy,.row mB,.int .i64,.int .i64,.int .i64,.int .i64])]⟩
def hx(x:bq)(i:Int):kA.X:=(false,its x,((its x).length:Nat),i,x.1,x.2.1,x.2.2.1,x.2.2.2.1,x.2.2.2.2.1,x.2.2.2.2.2.1,its x,x.2.2.2.2.2.2.2.1,x.2.2.2.2.2.2.2.2.1,x.2.2.2.2.2.2.2.2.2.1,x.2.2.2.2.2.2.2.2.2.2.1,())
def q5(x:bq)(i:Int):SH:=((qh x i).1.set 17 (vb (decide (i<((its x).length:Int)))),gS x)
def mN(x:bq)(y:bM):aK:=(65,.box (il y))::gS x
def q6(x:bq)(i:Int)(y:bM):SH:=((((((q5 x i).1.set 18 (vi i)).set 19 (.v (.c (.rptr mB (its x) i.toNat 0)))).set 20 (va (il y))).set 5 (vp 65 0)).set 4 (vi i),mN x y)
def q7(x:bq)(i:Int)(y:bM):SH:=((((q6 x i y).1.set 21 (va (il y))).set 22 (va (il (0,0,0,0)))).set 23 (vb (y.1==0&&(y.2.1==0&&(y.2.2.1==0&&(y.2.2.2==0&&true))))),mN x y)
def vA(x:bq)(i:Int)(y:bM):SH:=((q7 x i y).1.set 25 .dead,mN x y)
def Ar(x:bq)(i:Int)(y:bM)(r:R5):SH:=(((vA x i y).1.set 26 (va (il y))).set 27 (va (il (rk r))),mN x y)
def wF(x:bq)(i:Int)(y:bM)(r:R5)(t:Bool):SH:=((Ar x i y r).1.set 28 (.tup [.c .dead,.c (.bool t)]),mN x y)
def q8(x:bq)(i:Int)(y:bM)(r:R5)(t:Bool):SH:=((((((wF x i y r t).1.set 24 (.tup [.c .dead,.c (.bool t)])).set 29 .dead).set 30 (vb t)).set 6 .dead).set 7 (vb t),mN x y)
def C6(x:bq)(i:Int)(y:bM)(r:R5):SH:=((((((((q8 x i y r true).1.set 31 (vb true)).set 32 (vb true)).set 33 (.tup [])).set 34 (.tup [])).set 35 (.tup [])).set 36 (.tup [])).set 37 (vb true),mN x y)
def vz(x:bq)(i:Int)(y:bM)(r:R5)(b:Bool):SH:=((((((((q8 x i y r false).1.set 31 (vb false)).set 32 (vb false)).set 33 (va (wl x))).set 34 (va (il y))).set 35 (vb b)).set 36 (vb (!b))).set 37 (vb (!b)),mN x y)
def pK(x:bq)(i:Int)(y:bM)(r:R5)(b:Bool):SH:=((vz x i y r b).1.set 38 .dead,mN x y)
def oG(x:bq)(i:Int)(y:bM)(r:R5)(b:Bool)(r2:R5):SH:=((((pK x i y r b).1.set 39 (va (il y))).set 40 (va (il (rk r2)))).set 41 (vi i),mN x y)
def oY(s:SH)(i:Int):SH:=((s.1.set 42 (vi (IntKind.wrap .i64 (i+1)))).set 16 (vi (IntKind.wrap .i64 (i+1))),s.2)
structure o5 (E:Env) (c:Code) (tM:Nat) (pl:bM→Option R5) (my:bq→bM→Option (Bool×Unit)):Prop where
 s0:(aq c 0).size=2
 s1:(aq c 1).size=4
 s3:(aq c 3).size=2
 s4:(aq c 4).size=4
 s5:(aq c 5).size=1
 s6:(aq c 6).size=6
 s7:(aq c 7).size=3
 s8:(aq c 8).size=9
 s9:(aq c 9).size=7
 Hh:(aq c 11).size=5
 G9:(aq c 12).size=2
 n4:cT [3] (aq c 4).toList=true
 n5:cT [3] (aq c 5).toList=true
 n6:cT [3] (aq c 6).toList=true
 n7:cT [3] (aq c 7).toList=true
 Ic:cT [3,25] (((aq c 8).toList.drop 1).take 2)=true
 n8:cT [3] ((aq c 8).toList.drop 4)=true
 n9:cT [3] (aq c 9).toList=true
 Hs:cT [3] (aq c 10).toList=true
 Ia:cT [3,38] (((aq c 11).toList.drop 1).take 3)=true
 Hr:cT [3] (aq c 12).toList=true
 HX:cT [3] (aq c 13).toList=true
 H8:fb (aq c 3) 0 (some 12) (.makeMap tM none)
 Ib:fb (aq c 3) 1 (some 3) (.assign (.tmp 12))
 Ih:fb (aq c 8) 0 (some 25) (.move (.tmp 3))
 Ie:fb (aq c 8) 3 (some 28) (.lookup tM (.tmp 25) (.tmp 27) true)
 HV:fb (aq c 11) 0 (some 38) (.move (.tmp 3))
 HM:fb (aq c 11) 4 none (.mapUpdate tM (.tmp 38) (.tmp 40) (.tmp 41))
 h0:∀x,aU E (aq c 0) (aq c 0).toList (q0 x) 0=some (q1 x)
 h1:∀x,aU E (aq c 1) (aq c 1).toList (q1 x) 32=some (q2 x)
 h2:∀x,aU E (aq c 2) (aq c 2).toList (q2 x) 96=some ((q2 x).1.set 2 (vb false),(q2 x).2)
 h4:∀x,aU E (aq c 4) (aq c 4).toList (q3 x) 128=some (q4 x)
 h5:∀x i,aU E (aq c 5) (aq c 5).toList (qh x i) 1=some (q5 x i)
 h6:∀x i,aU E (aq c 6) (aq c 6).toList (q5 x i) 17=Bool.casesOn (ae i (its x).length) none (some (q6 x i ((its x).getD i.toNat (0,0,0,0))))
 h7:∀x i y,aU E (aq c 7) (aq c 7).toList (q6 x i y) 113=some (q7 x i y)
 Ig:∀x i y,aU E (aq c 8) (((aq c 8).toList.drop 1).take 2) (vA x i y) 177=Option.bind (pl y) fun r=>some (Ar x i y r)
 h8:∀x i y r t,aU E (aq c 8) ((aq c 8).toList.drop 4) (wF x i y r t) 225=some (q8 x i y r t)
 HY:∀x i y r,aU E (aq c 9) (aq c 9).toList (q8 x i y r true) 305=some (C6 x i y r)
 HW:∀x i y r,aU E (aq c 9) (aq c 9).toList (q8 x i y r false) 305=Option.bind (my x y) fun b=>some (vz x i y r b.1)
 HH:∀x i y r,aU E (aq c 10) (aq c 10).toList (C6 x i y r) 417=some ((C6 x i y r).1.set 2 (vb false),mN x y)
 HR:∀x i y r b,aU E (aq c 10) (aq c 10).toList (vz x i y r b) 417=some ((vz x i y r b).1.set 2 (vb false),mN x y)
 H9:∀x i y r b,aU E (aq c 11) (((aq c 11).toList.drop 1).take 3) (pK x i y r b) 433=Option.bind (pl y) fun r2=>some (oG x i y r b r2)
 HT:∀x i y,aU E (aq c 12) (aq c 12).toList (q7 x i y) 161=some (oY (q7 x i y) i)
 HS:∀x i y r b r2,aU E (aq c 12) (aq c 12).toList (oG x i y r b r2) 497=some (oY (oG x i y r b r2) i)
 H3:∀x i,aU E (aq c 13) (aq c 13).toList (q5 x i) 17=some ((q5 x i).1.set 2 (vb true),gS x)
 d4:∀x,dj kA E.m E.au ⟨(q4 x).1,(q4 x).2,192⟩ some=some (hx x 0)
 HK:∀x i y,dj kA E.m E.au ⟨(oY (q7 x i y) i).1,(oY (q7 x i y) i).2,193⟩ some=some (hx x (IntKind.wrap .i64 (i+1)))
 HN:∀x i y r b r2,dj kA E.m E.au ⟨(oY (oG x i y r b r2) i).1,(oY (oG x i y r b r2) i).2,529⟩ some=some (hx x (IntKind.wrap .i64 (i+1)))
theorem EE(x:bq)(i:Int):kA.bZ (hx x i) Prod.mk=([(1,.c (.ptr 0 0)),(2,.c (.bool false)),(14,.c (.row mB (its x))),(15,.c (.int .i64 ((its x).length:Nat))),(16,.c (.int .i64 i))],gS x):=rfl
theorem As{g:Gh}{hp:HP}{k:bM}{V:Value}(h:aV g hp (va (il k)) V):V=gH k:=by
 obtain⟨vs,rfl,h⟩:=h;obtain⟨a,b,c,d⟩:=k
 match vs,h with
 | [v1,v2,v3,v4],⟨h1,h2,h3,h4,_⟩ =>
  obtain rfl:v1=_:=h1;obtain rfl:v2=_:=h2;obtain rfl:v3=_:=h3;obtain rfl:v4=_:=h4;rfl
 | [],h=>exact h.elim
 | [_],h=>exact h.2.elim
 | [_,_],h=>exact h.2.2.elim
 | [_,_,_],h=>exact h.2.2.2.elim
 | _::_::_::_::_::_,h=>exact h.2.2.2.2.elim
theorem zC{R:Array Oper}{i n:Nat}:∀k o,((R.toList.drop i).take n)[k]?=some o→R[i+k]?=some o:=fun k o h=>by
 rw[List.getElem?_take]at h;split at h
 ·rw[List.getElem?_drop,Array.getElem?_toList]at h;exact h
 ·cases h
theorem EX{R:Array Oper}{i:Nat}:∀k o,(R.toList.drop i)[k]?=some o→R[i+k]?=some o:=fun k o h=>by
 rw[List.getElem?_drop,Array.getElem?_toList]at h;exact h
def xC(mt:Nat→Prop)(r:Nat)(b:Nat):Prop:=mt b∧b≠r
def MG(mt:Nat→Prop)(g:Gh)(w:World)(N r:Nat)(s:SH)(nx:Nat)(a:Act)(w2:World)(ks:List bM):Prop :=
 ∃g1 w1,Ext mt (gK [] g) w g1 w1∧(∀n,g1.φ n=none)∧¬g1.ro r∧mt r∧(∀b,w1.heap.size≤b→mt b)∧kQ w1 r ks∧Inv (xC mt r) g1 w1 [] N ⟨s.1,s.2,nx⟩ a w2∧a.tmps.getD 3 undef=.map (some r)
section
variable {mt:Nat→Prop} {g:Gh} {w:World} {N r:Nat} {E:Env} {Q:Exit→Act→World→Prop} {ks:List bM}
theorem rA{w1:World}(h:∀b,w1.heap.size≤b→mt b)(hM:kQ w1 r ks):∀b,w1.heap.size≤b→xC mt r b:=fun b hb=>by
 obtain⟨es,clock,h1,_⟩:=hM;have:=fT h1;exact⟨h b hb,by omega⟩
theorem MG.region(ok:dk P E){id nx nx':Nat}{R:Array Oper}{s s':SH}{a:Act}{w2:World}(hr:aU E R R.toList s nx=some s')(hd:cT [3] R.toList=true)(hn:nx+keys*R.size=nx')(hG:MG mt g w N r s nx a w2 ks)
  (hK:∀a' w',MG mt g w N r s' nx' a' w' ks→Q .normal a' w'):(Code.region id R false).wp P Q a w2:=by
 obtain⟨g1,w1,e,hφ,hro,hmr,hmt,hM,⟨g',A⟩,h3⟩:=hG;subst hn;exact cU ok (rA hmt hM) hr hd A fun a' w' g2 A2 k=>hK a' w' ⟨g1,w1,e,hφ,hro,hmr,hmt,hM,⟨g2,A2⟩,(k 3 (by simp)).trans h3⟩
theorem MG.bool{s:SH}{nx:Nat}{a:Act}{w2:World}(hG:MG mt g w N r s nx a w2 ks){t:Nat}{b:Bool}(h:getS s.1 t=vb b):a.eval (.tmp t)=.bool b:=by
 obtain⟨g1,w1,e,hφ,hro,hmr,hmt,hM,⟨g',A⟩,h3⟩:=hG;have h1:=aM A.fA (.tmp t);rw[show rd s.1 (.tmp t)=vb b from h]at h1
 exact h1
theorem MG.head(hm:E.m=0)(hk:E.au=[])(hN:43≤N){s:SH}{nx:Nat}{a:Act}{w2:World}{x:bq}{i:Int}(hd:dj kA E.m E.au ⟨s.1,s.2,nx⟩ some=some (hx x i))(hG:MG mt g w N r s nx a w2 ks):MG mt g w N r (qh x i) 1 a w2 ks:=by
 obtain⟨g1,w1,e,hφ,hro,hmr,hmt,hM,hI,h3⟩:=hG;refine⟨g1,w1,e,hφ,hro,hmr,hmt,hM,?_,h3⟩;obtain⟨x',as,os,k1,k2,k3⟩:=dQ (E:=E) (N:=N) (ds:=[]) (w0:=w1) (mt:=xC mt r) (g0:=g1) (fun n _=>hφ n) hd
 simp only[Option.some.injEq]at k1;subst k1;have h:=k2 Prod.mk;rw[EE]at h;simp only[Prod.mk.injEq]at h;obtain⟨rfl,rfl⟩:=h;have h4:=k3 a w2 43 hN hI;rw[hm]at h4;exact h4
theorem AE{mtA:Nat→Prop}{g1 g':Gh}{w1 w2 w3:World}{H:HF}{sl:List SV}{nx:Nat}{a:Act}(e0:Ext mt (gK [] g) w g1 w1)(sub:∀b,mtA b→mt b)(A:bV mtA g1 w1 H sl nx [] N a w2 g')(hsub:∀b,b<w2.heap.size→mtA b→xC mt r b)(hr:¬g'.ro r)(hmr:mt r)
  (h1:w3.os=w2.os) (h2:w3.tape=w2.tape) (h3:w3.output=w2.output) (h4:w2.heap.size≤w3.heap.size) (h5:∀b,b≠r→b<w2.heap.size→w3.heap[b]?=w2.heap[b]?) :
  Ext mt (gK [] g) w (gK [] g') w3∧bV (xC mt r) (gK [] g') w3 H sl nx [] N a w3 g':=by
 have e1:=e0.trans (A.ext.more sub);obtain⟨M,st⟩:=(A.mem.less hsub).GF (r:=r) hr (fun h=>h.2 rfl) h4 h5
 refine⟨⟨h1.trans e1.os,h2.trans e1.tape,h3.trans e1.output,Nat.le_trans e1.size h4,fun b hb hk=>?_,e1.ro,e1.dr,fun n Q hQ=>?_⟩,⟨⟨rfl,rfl,rfl,Nat.le_refl _,fun _ _ _=>rfl,fun _ h=>h,fun _ h=>.inl h,fun n Q hQ=>?_⟩,M,A.fA.aL st,A.len,A.nx,A.gz⟩⟩
 ·refine(h5 b (fun e=>?_) (Nat.lt_of_lt_of_le hb e1.size)).trans (e1.au b hb hk)
  subst e;exact hk.elim (fun h=>h hmr) fun h=>hr (e1.ro b h)
 ·have hQ:(if n∈([]:List Nat) then g.φ n else none)=some Q:=hQ
  rw[if_neg (List.not_mem_nil)]at hQ;cases hQ
 ·have hQ:(if n∈([]:List Nat) then g'.φ n else none)=some Q:=hQ
  rw[if_neg (List.not_mem_nil)]at hQ;cases hQ
theorem gV{g:Gh}:∀n,(gK [] g).φ n=none:=fun n=>by
 show (if n∈([]:List Nat) then g.φ n else none)=none
 rw[if_neg (List.not_mem_nil)]
end
end Go.Proofs.YthdgahpomhnidaaGreat.Mx
namespace Go.Proofs.YthdgahpomhnidaaGreat.Mx
open Go
set_option maxRecDepth 4000
variable {P:Program}
structure ke (w w':World):Prop where
 os:w'.os=w.os
 tape:w'.tape=w.tape
 output:w'.output=w.output
 size:w.heap.size≤w'.heap.size
 au:∀b,b<w.heap.size→w'.heap[b]?=w.heap[b]?
theorem ke.refl(w:World):ke w w:=⟨rfl,rfl,rfl,Nat.le_refl _,fun _ _=>rfl⟩
theorem ke.trans{w w1 w2:World}(a:ke w w1)(b:ke w1 w2):ke w w2 :=
 ⟨b.os.trans a.os,b.tape.trans a.tape,b.output.trans a.output,Nat.le_trans a.size b.size,fun c hc=>(b.au c (Nat.lt_of_lt_of_le hc a.size)).trans (a.au c hc)⟩
theorem ke.ext{w w':World}(h:ke w w')(mt:Nat→Prop)(g:Gh):Ext mt g w g w':=⟨h.os,h.tape,h.output,h.size,fun b hb _=>h.au b hb,fun _ h=>h,fun _ h=>.inl h,fun _ _ h=>h⟩
theorem ke.mem{w w':World}(h:ke w w'){mt:Nat→Prop}{g:Gh}{H:HF}(M:Mem mt g H w.heap):Mem mt g H w'.heap∧cA g w.heap g w'.heap:=by
 have st:cA g w.heap g w'.heap:=⟨fun _ h=>h,fun b hb=>h.au b (M.ro b hb),fun _ _ h=>h⟩
 refine⟨⟨fun n o q=>?_,M.own,M.bF,M.sep,fun b hb=>Nat.lt_of_lt_of_le (M.ro b hb) h.size⟩,st⟩
 obtain⟨Q,h1,h2⟩:=M.obj n o q;exact⟨Q,h1,h2.aL st fun b hb=>h.au b (h2.lt b hb)⟩
def yq(P:Program)(f:Nat)(args:Array Value)(w:World)(r:Int):Prop :=
 dK P f args w fun V w'=>V=.int .i64 r∧ke w w'
def rq:Shape:=⟨[(0,.agg [.int .i64]),(1,.agg [.int .i64,.int .i64,.int .i64,.int .i64,.row (.int .u8),.row uy,.row mB,.int .i64,.int .i64,.int .i64,.int .i64])],[]⟩
def c6:List Shape:=[⟨[(0,.c (.int .i64))],[]⟩]
theorem BA{f:Nat}{F:Int→bq→Option (Int×Unit)}(S:Sound P f ⟨rq,c6,[],fun x=>F x.1 x.2⟩){n:Int}{x:bq}{r:Int}(h:F n x=some (r,())){g:Gh}{w:World}{V:Value}(hV:bI g w.heap (.agg (wl x)) V)(hro:∀b,g.ro b→b<w.heap.size) :
  yq P f #[.agg #[.int .i64 n],V] w r:=by
 obtain⟨as,os,L⟩:=Shape.laid rq (n,x);obtain⟨rfl,rfl⟩:=L.same (as':=[(0,.agg [.int .i64 n]),(1,.agg (wl x))]) (os':=[]) fun K=>rfl
 have hV':bI ⟨fun _=>none,g.ro⟩ w.heap (.agg (wl x)) V:=bI.mF (g:=g) (g':=⟨fun _=>none,g.ro⟩) (μ:=id) (a:=.agg (wl x)) (fun j Q hj _=>by simp[p7,wl,refs]at hj) (.inr rfl) hV
 have M:Mem (fun b=>w.heap.size≤b) ⟨fun _=>none,g.ro⟩ (hget []) w.heap:=⟨fun n o h=>(by cases h),fun n o P b h=>(by cases h),fun n o P b h=>(by cases h),fun n m o o' P Q b _ h=>(by cases h),hro⟩
 have hA:=S.call (n,x) (r,()) h (fun b=>w.heap.size≤b) ⟨fun _=>none,g.ro⟩ w #[.agg #[.int .i64 n],V] _ _ L M (fun b hb=>hb) (fun _ _=>rfl) (fun i a hi=>by
  simp only[List.mem_cons,List.not_mem_nil,or_false,Prod.mk.injEq]at hi;rcases hi with ⟨rfl,rfl⟩ | ⟨rfl,rfl⟩
  ·exact⟨[.int .i64 n],rfl,rfl,trivial⟩
  ·exact hV')
 refine hA.mono fun V' w' hO=>?_
 obtain⟨as',os',L',g',e,_,hv⟩:=hO;obtain⟨rfl,rfl⟩:=L'.same (as':=[(0,.c (.int .i64 r))]) (os':=[]) fun K=>rfl
 exact⟨hv,⟨e.os,e.tape,e.output,e.size,fun b hb=>e.au b hb (.inl (Nat.not_le.2 hb))⟩⟩
theorem sq{ops:Array Oper}{Q:Exit→Act→World→Prop}{i:Nat}{is:List Nat}{o:Oper}{a:Act}{w:World}{f:Nat}{args:Array Value}{R:Value→World→Prop}(ho:ops[i]?=some o)(hg:o.guard=none)
  (hr:(execOp a.eval o).run P w=(callFunc f args).run P w) (hA:dK P f args w R) (hK:∀V w',R V w'→wpOps P ops Q is (a.put o.dst V) w'):wpOps P ops Q (i::is) a w:=by
 rw[wpOps_cons];unfold wpOp;rw[ho]
 simp only
 rw[if_pos (by simp[Region.wanted,hg])]
 refine .inl ?_;unfold Oper.wp;rw[hr];rcases hA with ⟨h1,h2⟩ | ⟨V,w',h1,h2⟩
 ·rw[h1]
  refine Calls.mono h2 fun e w2 h=>?_
  obtain⟨V,rfl,hR⟩:=h;exact hK V w2 hR
 ·rw[h1]
  exact hK V w' h2
def rB(c:Code):Code:=.seq (.region 0 (aq c 0) false) (.seq (.region 1 (aq c 1) false) .ret)
def vt(x:bq):SH:=((cf 8).set 1 (va (wl x)),[])
def FE(x:bq):SH:=(((vt x).1.set 3 (vp 0 0)).set 4 (vi 0),gS x)
def xl(x:bq):SH:=((FE x).1.set 5 .dead,gS x)
def vg(x:bq):SH:=((xl x).1.set 6 (va (wl x)),gS x)
def xN(x:bq)(r:Int):SH:=((vg x).1.set 7 (vi r),gS x)
def xw(x:bq)(r:Int):SH:=((xN x r).1.set 4 (vi r),gS x)
structure pc (E:Env) (c:Code) (name:String) (tW:Nat):Prop where
 s0:(aq c 0).size=2
 s1:(aq c 1).size=4
 n0:cT [0] (aq c 0).toList=true
 n1:cT [5] (((aq c 1).toList.drop 1).take 1)=true
 oa:fb (aq c 1) 0 (some 5) (.move (.tmp 0))
 oc:fb (aq c 1) 2 (some 7) (.call {callee:=.invoke (.tmp 5) name,args:=#[.tmp 6],argTypes:=#[tW]})
 h0:∀x,aU E (aq c 0) (aq c 0).toList (vt x) 0=some (FE x)
 h1:∀x,aU E (aq c 1) (((aq c 1).toList.drop 1).take 1) (xl x) 48=some (vg x)
 h3:∀x r,aU E (aq c 1) ((aq c 1).toList.drop 3) (xN x r) 80=some (xw x r)
attribute [local irreducible] vt FE xl vg xN xw
theorem rO{E:Env}{fn:Func}{s:SH}{nx:Nat}{r:Int}(hkeep:E.au=[])(hres:fn.results=#[.tmp 4])(h:getS s.1 4=vi r):fin E fn c6 .ret ⟨s.1,s.2,nx⟩=some (r,()):=by
 have h2:resAV ⟨s.1,s.2,nx⟩ E.ti (.tmp 4)=some (.c (.int .i64 r)):=by
  show svA (getS s.1 4)=_;rw[h];rfl
 unfold fin;rw[hres];show iQ E.au _ (nthO [resAV ⟨s.1,s.2,nx⟩ E.ti (.tmp 4)]) c6 id=_;rw[h2,hkeep];rfl
theorem sv{E : Env}{c : Code}{name : String}{tW tS f fw : Nat}{fn : Func}(hf : P.funcs[f]? = some fn)(hb : fn.body = some (rB c))(hname : (fn.name == "runtime.NumGoroutine") = false)(hnt : fn.ntmps = 8)(hres : fn.results = #[.tmp 4])
    (T:pc E c name tW) (ok:dk P E) (hkeep:E.au=[])
    (hcall:∀(n:Int) (V:Value) (w:World),(callMethod (.iface tS (.agg #[.int .i64 n])) name #[V]).run P w=(callFunc fw #[.agg #[.int .i64 n],V]).run P w)
    {F:Int→bq→Option (Int×Unit)} (S:Sound P fw ⟨rq,c6,[],fun x=>F x.1 x.2⟩) {n:Int} {x:bq} {r:Int} (h:F n x=some (r,())) {g:Gh} {w:World} {V:Value} (hV:bI g w.heap (.agg (wl x)) V) (hro:∀b,g.ro b→b<w.heap.size) :
    yq P f #[.iface tS (.agg #[.int .i64 n]),V] w r:=by
  refine .inl ⟨?_,?_⟩
  · have hbn:fn.body.isNone=false:=by rw[hb];rfl
    simp only[callFunc,Sem.run_bind,run_program,Result.andThen_ok,hf,hname,hbn,Bool.false_eq_true,if_false,Sem.run_pure]
  · have hV':bI ⟨fun _=>none,g.ro⟩ w.heap (.agg (wl x)) V:=bI.mF (g:=g) (g':=⟨fun _=>none,g.ro⟩) (μ:=id) (a:=.agg (wl x)) (fun j Q hj _=>by simp[p7,wl,refs]at hj) (.inr rfl) hV
    have M:Mem (fun b=>w.heap.size≤b) ⟨fun _=>none,g.ro⟩ (hget []) w.heap:=⟨fun n o h=>(by cases h),fun n o P b h=>(by cases h),fun n o P b h=>(by cases h),fun n m o o' P Q b _ h=>(by cases h),hro⟩
    refine calls_of_wp hf hb ?_;rw[hnt];have hm0:∀b,w.heap.size≤b→w.heap.size≤b:=fun b hb=>hb
    have A0:bV (fun b=>w.heap.size≤b) ⟨fun _=>none,g.ro⟩ w (hget (vt x).2) (vt x).1 0 [] 8 {tmps:=#[.iface tS (.agg #[.int .i64 n]),V]++Array.replicate (8-2) undef,defers:=[]} w ⟨fun _=>none,g.ro⟩:=by
      rw[show (vt x).1=(cf 8).set 1 (va (wl x)) by kernel_rfl,show (vt x).2=[] by kernel_rfl]
      refine⟨Ext.refl _ _ _,M,?_,by rw[List.length_set,fS];simp,fun _ _=>rfl,rfl,rfl⟩
      refine iy [(1,.agg (wl x))] (cf 8) (fun i y hi=>?_) (fun t=>by rw[dO];trivial)
      simp only[List.mem_cons,List.not_mem_nil,or_false,Prod.mk.injEq]at hi;obtain⟨rfl,rfl⟩:=hi;exact hV'
    have t0:({tmps:=#[.iface tS (.agg #[.int .i64 n]),V]++Array.replicate (8-2) undef,defers:=[]}:Act).tmps.getD 0 undef=.iface tS (.agg #[.int .i64 n]):=rfl;show (rB c).wp P _ {tmps:=#[.iface tS (.agg #[.int .i64 n]),V]++Array.replicate (8-2) undef,defers:=[]} w;generalize ({tmps:=#[.iface tS (.agg #[.int .i64 n]),V]++Array.replicate (8-2) undef,defers:=[]}:Act)=a0 at A0 t0 ⊢;refine wp_seq (cU ok hm0 (T.h0 x) T.n0 A0 fun a1 w1 g1 A1 k1=>?_)
    rw[T.s0]at A1;have t1:a1.tmps.getD 0 undef=.iface tS (.agg #[.int .i64 n]):=(k1 0 (by simp)).trans t0
    refine wp_seq (wp_region ?_);rw[T.s1];show wpOps P (aq c 1) _ (0::(idx 1 1++(2::(idx 3 1++[])))) a1 w1;obtain⟨oV,v1,v2,v3,v4⟩:=T.oa.get;have hmv:(execOp a1.eval oV).run P w1=.ok (.value (a1.tmps.getD 0 undef)) w1:=by
      unfold execOp;rw[v4];rfl
    refine gW v1 v2 hmv ?_;rw[v3,t1];have A2:=A1.l9 (v:=.dead) (V:=.iface tS (.agg #[.int .i64 n])) trivial (some 5) (sl':=(xl x).1) (H':=hget (xl x).2) (nx':=32+keys*1) (by kernel_rfl) (by kernel_rfl) (by simp only[keys];omega)
    have t5:(a1.put (some 5) (.iface tS (.agg #[.int .i64 n]))).tmps.getD 5 undef=.iface tS (.agg #[.int .i64 n]):=jT (by rw[A1.gz.2];decide)
    have hl:(((aq c 1).toList.drop 1).take 1).length=1:=by simp[T.s1]
    have hl2:((aq c 1).toList.drop 3).length=1:=by simp[T.s1]
    have key:∀Q:Exit→Act→World→Prop,(∀a' w' g',bV (fun b=>w.heap.size≤b) ⟨fun _=>none,g.ro⟩ w (hget (xw x r).2) (xw x r).1 96 [] 8 a' w' g'→Q .normal a' w') →
        wpOps P (aq c 1) Q (idx 1 (((aq c 1).toList.drop 1).take 1).length++(2::(idx 3 1++[]))) (a1.put (some 5) (.iface tS (.agg #[.int .i64 n]))) w1:=fun Q hQ=>by
      refine cW ok hm0 (i:=1) (next:=32) (ts:=[5]) (s:=xl x) (r:=vg x) (fun k o h=>?_) T.n1 (T.h1 x) A2 fun a3 w3 g3 A3 k3=>?_
      · rw[List.getElem?_take]at h
        split at h
        · rw[List.getElem?_drop,Array.getElem?_toList]at h;exact h
        · cases h
      · rw[hl]at A3
        have u5:a3.tmps.getD 5 undef=.iface tS (.agg #[.int .i64 n]):=(k3 5 (by simp)).trans t5
        obtain⟨oC,c1,c2,c3,c4⟩:=T.oc.get;have hW:bI g3 w3.heap (.agg (wl x)) (a3.tmps.getD 6 undef):=by
          have h6:=A3.fA 6;rw[show getS (vg x).1 6=va (wl x) by kernel_rfl]at h6
          exact h6
        have hrun:(execOp a3.eval oC).run P w3=(callFunc fw #[.agg #[.int .i64 n],a3.tmps.getD 6 undef]).run P w3:=by
          unfold execOp;rw[c4];have e5:a3.eval (.tmp 5)=.iface tS (.agg #[.int .i64 n]):=u5;simp only[resolve,e5,Sem.run_bind,Sem.run_pure,Result.andThen_ok,invoke];have e6:#[Value.iface tS (.agg #[.int .i64 n])]++Array.map a3.eval #[Operand.tmp 6]=#[.iface tS (.agg #[.int .i64 n]),a3.tmps.getD 6 undef]:=by
            simp only[List.map_toArray,List.map_cons,List.map_nil,List.append_toArray,List.cons_append,List.nil_append];rfl
          rw[e6];have e7:(#[Value.iface tS (.agg #[.int .i64 n]),a3.tmps.getD 6 undef]).extract 1=#[a3.tmps.getD 6 undef]:=by simp
          show (callMethod (.iface tS (.agg #[.int .i64 n])) name ((#[Value.iface tS (.agg #[.int .i64 n]),a3.tmps.getD 6 undef]).extract 1)).run P w3=_;rw[e7];exact hcall n _ w3
        refine sq c1 c2 hrun (BA S h hW A3.mem.ro) fun V' w' hR=>?_
        obtain⟨rfl,hG⟩:=hR;rw[c3];obtain⟨M4,st4⟩:=hG.mem A3.mem;have A4:bV (fun b=>w.heap.size≤b) ⟨fun _=>none,g.ro⟩ w (hget (vg x).2) (vg x).1 (32+keys*(1+1)) [] 8 a3 w' g3:=⟨A3.ext.trans (hG.ext _ _),M4,A3.fA.aL st4,A3.len,A3.nx,A3.gz⟩
        have A5:=A4.l9 (v:=vi r) (V:=.int .i64 r) rfl (some 7) (sl':=(xN x r).1) (H':=hget (xN x r).2) (nx':=32+keys*3) (by kernel_rfl) (by kernel_rfl) (by simp only[keys];omega)
        have key2:wpOps P (aq c 1) Q (idx 3 ((aq c 1).toList.drop 3).length++[]) (a3.put (some 7) (.int .i64 r)) w':=by
          refine cW ok hm0 (i:=3) (next:=32) (ts:=[]) (s:=xN x r) (r:=xw x r) (fun k o h=>?_) (cK _) (T.h3 x r) A5 fun a6 w6 g6 A6 _=>?_
          · rw[List.getElem?_drop,Array.getElem?_toList]at h;exact h
          · rw[hl2]at A6
            exact hQ a6 w6 g6 A6
        rw[hl2]at key2;exact key2
    rw[hl]at key;refine key _ fun a' w' g' A=>?_
    · refine wp_ret ?_
      obtain⟨_,h3,V',h4,h5⟩:=gJ (P:=P) (mt:=fun b=>w.heap.size≤b) (g0:=⟨fun _=>none,g.ro⟩) (w0:=w) (ds:=[]) (N:=8) ok.1 (fun _ _=>rfl) (outs:=c6) rfl (rO (s:=xw x r) (nx:=96) hkeep hres (by kernel_rfl)) ⟨g',A⟩
      obtain⟨as',os',L',g2,e,_,hv⟩:=h5;obtain⟨rfl,rfl⟩:=L'.same (as':=[(0,.c (.int .i64 r))]) (os':=[]) fun K=>rfl
      exact⟨h3,V',h4,V',rfl,hv,⟨e.os,e.tape,e.output,e.size,fun b hb=>e.au b hb (.inl (Nat.not_le.2 hb))⟩⟩
def rU:Shape:=⟨[(0,.agg [.int .i64,.int .i64,.int .i64,.int .i64,.row (.int .u8),.row uy,.row mB,.int .i64,.int .i64,.int .i64,.int .i64]),(1,.c (.int .i64))],[]⟩
abbrev Wm:=Int×Int×Int×Int×List Int×List CO×List bM×Int×Int×Int×Int×Int×Unit
def mw(x:Wm):bq:=(x.1,x.2.1,x.2.2.1,x.2.2.2.1,x.2.2.2.2.1,x.2.2.2.2.2.1,x.2.2.2.2.2.2.1,x.2.2.2.2.2.2.2.1,x.2.2.2.2.2.2.2.2.1,x.2.2.2.2.2.2.2.2.2.1,x.2.2.2.2.2.2.2.2.2.2.1,())
def mn(x:Wm):Int:=x.2.2.2.2.2.2.2.2.2.2.2.1
def vF(x:bq)(n:Int):SH:=(((cf 10).set 0 (va (wl x))).set 1 (vi n),[])
def zP(x:bq)(n:Int):SH:=(((vF x n).1.set 2 (vp 0 0)).set 4 (vi 0),gS x)
def yP(x:bq)(n:Int):SH:=(((zP x n).1.set 5 (vi n)).set 6 (va [.int .i64 n]),gS x)
def wD(x:bq)(n:Int):SH:=((yP x n).1.set 7 .dead,gS x)
def vn(x:bq)(n:Int):SH:=((wD x n).1.set 8 (va (wl x)),gS x)
def xx(x:bq)(n r:Int):SH:=((vn x n).1.set 9 (vi r),gS x)
def xe(x:bq)(n r:Int):SH:=((xx x n r).1.set 4 (vi r),gS x)
structure nA (E:Env) (c:Code) (tS fa tW tF:Nat):Prop where
 s0:(aq c 0).size=2
 s1:(aq c 1).size=6
 n1:cT [7] (((aq c 1).toList.drop 3).take 1)=true
 om:fb (aq c 1) 2 (some 7) (.makeInterface tS (.tmp 6))
 oc:fb (aq c 1) 4 (some 9) (.call {callee:=.value (.func fa),args:=#[.tmp 7,.tmp 8],argTypes:=#[tF,tW]})
 h0:∀x n,aU E (aq c 0) (aq c 0).toList (vF x n) 0=some (zP x n)
 h1:∀x n,aU E (aq c 1) (((aq c 1).toList.drop 0).take 2) (zP x n) 32=some (yP x n)
 h3:∀x n,aU E (aq c 1) (((aq c 1).toList.drop 3).take 1) (wD x n) 80=some (vn x n)
 h5:∀x n r,aU E (aq c 1) ((aq c 1).toList.drop 5) (xx x n r) 112=some (xe x n r)
attribute [local irreducible] vF zP yP wD vn xx xe
theorem qJ{E : Env}{c : Code}{tS fa tW tF f : Nat}{fn : Func}(hf : P.funcs[f]? = some fn)(hb : fn.body = some (rB c))(hname : (fn.name == "runtime.NumGoroutine") = false)(hnt : fn.ntmps = 10)(hres : fn.results = #[.tmp 4])
    (T:nA E c tS fa tW tF) (ok:dk P E) (hkeep:E.au=[])
    (hface:∀(n:Int) (w:World),(Instr.makeInterface tS (.agg #[.int .i64 n])).run P w=.ok (.iface tS (.agg #[.int .i64 n])) w)
    {F:Int→bq→Option (Int×Unit)}
    (hask:∀{n:Int} {x:bq} {r:Int},F n x=some (r,())→∀{g:Gh} {w:World} {V:Value},bI g w.heap (.agg (wl x)) V→(∀b,g.ro b→b<w.heap.size)→yq P fa #[.iface tS (.agg #[.int .i64 n]),V] w r) :
    Sound P f ⟨rU,c6,[],fun x=>F (mn x) (mw x)⟩:=by
  refine⟨rfl,rfl,fun x res hr mt g w vs as os L M hmt hg hargs=>.inl ⟨?_,?_⟩⟩
  · have hbn:fn.body.isNone=false:=by rw[hb];rfl
    simp only[callFunc,Sem.run_bind,run_program,Result.andThen_ok,hf,hname,hbn,Bool.false_eq_true,if_false,Sem.run_pure]
  · have hr:F (mn x) (mw x)=some res:=hr
    obtain⟨r,u⟩:=res;obtain⟨rfl,rfl⟩:=L.same (as':=[(0,.agg (wl (mw x))),(1,.c (.int .i64 (mn x)))]) (os':=[]) fun K=>rfl
    generalize mw x=X at *
    generalize mn x=n at *
    have e0:Ext mt (gK [] g) w g w:=⟨rfl,rfl,rfl,Nat.le_refl _,fun _ _ _=>rfl,fun _ h=>h,fun _ h=>.inl h,fun n Q h=>by rw[gV]at h;cases h⟩
    refine calls_of_wp hf hb ?_;have hsz:10≤(vs++Array.replicate (fn.ntmps-vs.size) undef).size:=by simp[hnt];omega
    have A0:bV mt (gK [] g) w (hget (vF X n).2) (vF X n).1 0 [] (vs++Array.replicate (fn.ntmps-vs.size) undef).size {tmps:=vs++Array.replicate (fn.ntmps-vs.size) undef,defers:=[]} w g:=by
      rw[show (vF X n).1=((cf 10).set 0 (va (wl X))).set 1 (vi n) by kernel_rfl,show (vF X n).2=[] by kernel_rfl]
      refine⟨e0,M,?_,?_,hg,rfl,rfl⟩
      · have:=iy (g:=g) (hp:=w.heap) (a:={tmps:=vs++Array.replicate (fn.ntmps-vs.size) undef,defers:=[]}) [(0,.agg (wl X)),(1,.c (.int .i64 n))] (cf 10) (fun i y hi=>?_) (fun t=>by rw[dO];trivial)
        · exact this
        · have h2:=hargs i y hi
          have:(vs++Array.replicate (fn.ntmps-vs.size) undef).getD i undef=vs.getD i undef:=by
            simp only[Array.getD_eq_getD_getElem?,Array.getElem?_append];split
            · rfl
            · rename_i hlt
              rw[Array.getElem?_eq_none (xs:=vs) (Nat.not_lt.1 hlt),Array.getElem?_replicate];split<;>rfl
          rw[this];exact h2
      · show (((cf 10).set 0 (va (wl X))).set 1 (vi n)).length≤_
        rw[List.length_set,List.length_set,fS];exact hsz
    generalize (vs++Array.replicate (fn.ntmps-vs.size) undef).size=N at hsz A0;generalize ({tmps:=vs++Array.replicate (fn.ntmps-vs.size) undef,defers:=[]}:Act)=a0 at A0 ⊢;refine wp_seq (cU ok hmt (ts:=[]) (T.h0 X n) (cK _) A0 fun a1 w1 g1 A1 _=>?_)
    rw[T.s0]at A1;refine wp_seq (wp_region ?_);rw[T.s1];show wpOps P (aq c 1) _ (idx 0 2++(2::(idx 3 1++(4::(idx 5 1++[]))))) a1 w1;have hl0:(((aq c 1).toList.drop 0).take 2).length=2:=by simp[T.s1]
    have hl3:(((aq c 1).toList.drop 3).take 1).length=1:=by simp[T.s1]
    have hl5:((aq c 1).toList.drop 5).length=1:=by simp[T.s1]
    have cut:∀{i n:Nat} (k:Nat) (o:Oper),(((aq c 1).toList.drop i).take n)[k]?=some o→(aq c 1)[i+k]?=some o:=fun k o h=>by
      rw[List.getElem?_take]at h;split at h
      · rw[List.getElem?_drop,Array.getElem?_toList]at h;exact h
      · cases h
    have key:∀Q:Exit→Act→World→Prop,(∀a' w' g',bV mt (gK [] g) w (hget (xe X n r).2) (xe X n r).1 128 [] N a' w' g'→Q .normal a' w') →
        wpOps P (aq c 1) Q (idx 0 (((aq c 1).toList.drop 0).take 2).length++(2::(idx 3 1++(4::(idx 5 1++[]))))) a1 w1:=fun Q hQ=>by
      refine cW ok hmt (i:=0) (next:=32) (ts:=[]) (s:=zP X n) (r:=yP X n) cut (cK _) (T.h1 X n) A1 fun a2 w2 g2 A2 _=>?_
      rw[hl0]at A2;have h6:a2.tmps.getD 6 undef=.agg #[.int .i64 n]:=by
        have h:=A2.fA 6;rw[show getS (yP X n).1 6=va [.int .i64 n] by kernel_rfl]at h
        obtain⟨us,hu,hh⟩:=h
        match us,hh with
        | [u],⟨h1,_⟩ =>
          obtain rfl:u=_:=h1;exact hu
        | [],hh=>exact hh.elim
        | _::_::_,hh=>exact hh.2.elim
      obtain⟨oM,m1,m2,m3,m4⟩:=T.om.get;have hmv:(execOp a2.eval oM).run P w2=.ok (.value (.iface tS (.agg #[.int .i64 n]))) w2:=by
        unfold execOp;rw[m4];show (Instr.makeInterface tS (a2.tmps.getD 6 undef) >>= fun v=>pure (Next.value v)).run P w2=_
        rw[h6,Sem.run_bind,hface];rfl
      refine gW m1 m2 hmv ?_;rw[m3];have A3:=A2.l9 (v:=.dead) (V:=.iface tS (.agg #[.int .i64 n])) trivial (some 7) (sl':=(wD X n).1) (H':=hget (wD X n).2) (nx':=32+keys*3) (by kernel_rfl) (by kernel_rfl) (by simp only[keys];omega)
      have t7:(a2.put (some 7) (.iface tS (.agg #[.int .i64 n]))).tmps.getD 7 undef=.iface tS (.agg #[.int .i64 n]):=jT (by rw[A2.gz.2];omega)
      have key3:wpOps P (aq c 1) Q (idx 3 (((aq c 1).toList.drop 3).take 1).length++(4::(idx 5 1++[]))) (a2.put (some 7) (.iface tS (.agg #[.int .i64 n]))) w2:=by
        refine cW ok hmt (i:=3) (next:=32) (ts:=[7]) (s:=wD X n) (r:=vn X n) cut T.n1 (T.h3 X n) A3 fun a4 w4 g4 A4 k4=>?_
        rw[hl3]at A4;have u7:a4.tmps.getD 7 undef=.iface tS (.agg #[.int .i64 n]):=(k4 7 (by simp)).trans t7
        have hW:bI g4 w4.heap (.agg (wl X)) (a4.tmps.getD 8 undef):=by
          have h8:=A4.fA 8;rw[show getS (vn X n).1 8=va (wl X) by kernel_rfl]at h8
          exact h8
        obtain⟨oC,c1,c2,c3,c4⟩:=T.oc.get;have hrun:(execOp a4.eval oC).run P w4=(callFunc fa #[.iface tS (.agg #[.int .i64 n]),a4.tmps.getD 8 undef]).run P w4:=by
          unfold execOp;rw[c4];have hfv:a4.eval (.func fa)=.func (.func fa) #[] #[]:=rfl;have e6:Array.map a4.eval #[Operand.tmp 7,Operand.tmp 8]=#[.iface tS (.agg #[.int .i64 n]),a4.tmps.getD 8 undef]:=by
            simp only[List.map_toArray,List.map_cons,List.map_nil];rw[show a4.eval (.tmp 7)=.iface tS (.agg #[.int .i64 n]) from u7]
            rfl
          simp only[resolve,hfv,Deferred.ofValue,Sem.run_bind,Sem.run_pure,Result.andThen_ok,invoke,e6]
          first | rfl | (congr 2;first | rfl | simp)
        refine sq c1 c2 hrun (hask hr hW A4.mem.ro) fun V' w' hR=>?_
        obtain⟨rfl,hG⟩:=hR;rw[c3];obtain⟨M5,st5⟩:=hG.mem A4.mem;have A5:bV mt (gK [] g) w (hget (vn X n).2) (vn X n).1 (32+keys*(3+1)) [] N a4 w' g4:=⟨A4.ext.trans (hG.ext _ _),M5,A4.fA.aL st5,A4.len,A4.nx,A4.gz⟩;have A6:=A5.l9 (v:=vi r) (V:=.int .i64 r) rfl (some 9) (sl':=(xx X n r).1) (H':=hget (xx X n r).2) (nx':=32+keys*5) (by kernel_rfl) (by kernel_rfl) (by simp only[keys];omega)
        have key5:wpOps P (aq c 1) Q (idx 5 ((aq c 1).toList.drop 5).length++[]) (a4.put (some 9) (.int .i64 r)) w':=by
          refine cW ok hmt (i:=5) (next:=32) (ts:=[]) (s:=xx X n r) (r:=xe X n r) (fun k o h=>?_) (cK _) (T.h5 X n r) A6 fun a7 w7 g7 A7 _=>?_
          · rw[List.getElem?_drop,Array.getElem?_toList]at h;exact h
          · rw[hl5]at A7
            exact hQ a7 w7 g7 A7
        rw[hl5]at key5;exact key5
      rw[hl3]at key3;exact key3
    rw[hl0]at key;refine key _ fun a' w' g' A=>?_
    refine wp_ret ?_;obtain⟨_,h3,V',h4,h5⟩:=gJ (P:=P) (mt:=mt) (g0:=gK [] g) (w0:=w) (ds:=[]) (N:=N) ok.1 (fun n _=>gV n) (outs:=c6) rfl (rO (s:=xe X n r) (nx:=128) hkeep hres (by kernel_rfl)) ⟨g',A⟩
    exact⟨h3,V',h4,V',rfl,h5⟩
end Go.Proofs.YthdgahpomhnidaaGreat.Mx
namespace Go.Proofs.YthdgahpomhnidaaGreat.Mx
open Go
set_option maxRecDepth 4000
variable {P:Program}
attribute [local irreducible] q0 q1 q2 q3 q4 qh q5 q6 q7 vA Ar wF q8 C6 vz pK oG oY hx kA
section
variable {mt:Nat→Prop} {g:Gh} {w:World} {N r:Nat} {Q:Exit→Act→World→Prop} {ks:List bM}
theorem kQ.au{g1 g':Gh}{w1 w2:World}(hM:kQ w1 r ks)(e:Ext (xC mt r) g1 w1 g' w2):kQ w2 r ks:=by
 obtain⟨es,clock,h1,h2⟩:=hM;exact⟨es,clock,(e.au r (fT h1) (.inl fun h=>h.2 rfl)).trans h1,h2⟩
theorem uh{o:Oper}{a:Act}{w2:World}{t:Nat}(h:o.op=.move (.tmp t)):(execOp a.eval o).run P w2=.ok (.value (a.tmps.getD t undef)) w2:=by
 unfold execOp;rw[h];rfl
theorem yz{o:Oper}{a:Act}{w2:World}{t:Nat}(h:o.op=.assign (.tmp t)):(execOp a.eval o).run P w2=.ok (.value (a.tmps.getD t undef)) w2:=by
 unfold execOp;rw[h];rfl
end
section
variable {E:Env} {c:Code} {tM tX tI:Nat} {pl:bM→Option R5} {my:bq→bM→Option (Bool×Unit)} (T:o5 E c tM pl my) (ok:dk P E) (hkeep:E.au=[]) (hm:E.m=0)
 (hmap:P.underlying tM=some (.map tX tI)) (hwide:(match P.underlying tX with | some (.array _ _) | some (.struct _)=>true | _=>false)=true) (eq:ic P tX k4)
 (hchk:∀(em:Bool) (k:bM) (w:World),(Instr.checkKey em 10000 tX (gH k)).run P w=.ok () w) (hzero:∀w,(zeroValue tI).run P w=.ok (.int .i64 0) w)
 {mt:Nat→Prop} {g:Gh} {w:World} {N r:Nat} {x:bq} (hN:43≤N)
include T ok hmap hwide eq hchk hN
theorem ye{Q:Exit→Act→World→Prop}{i:Int}{y:bM}{r5:R5}{b:Bool}(hp:pl y=some r5){a:Act}{w2:World}{ks:List bM}(hni:rk r5∉ks)(hG:MG mt g w N r (vz x i y r5 b) 417 a w2 ks)
  (hK:∀a' w',MG mt g w N r (oG x i y r5 b r5) 497 a' w' (ks++[rk r5])→Q .normal a' w'):(Code.region 11 (aq c 11) false).wp P Q a w2:=by
 obtain⟨g1,w1,e,hφ,hro,hmr,hmt,hM,⟨g',A⟩,h3⟩:=hG;have hnew:=rA hmt hM;refine wp_region ?_;rw[T.Hh];show wpOps P (aq c 11) Q (0::(idx 1 3++(4::[]))) a w2;obtain⟨oV,v1,v2,v3,v4⟩:=T.HV.get;refine gW v1 v2 (uh v4) ?_;rw[v3,h3];have A1:=A.l9 (v:=.dead) (V:=.map (some r)) trivial (some 38) (sl':=(pK x i y r5 b).1) (H':=hget (pK x i y r5 b).2) (nx':=417+keys*1) (by kernel_rfl) (by kernel_rfl) (by simp only[keys];omega)
 have t38:(a.put (some 38) (.map (some r))).tmps.getD 38 undef=.map (some r):=jT (by rw[A.gz.2];omega)
 have t3:(a.put (some 38) (.map (some r))).tmps.getD 3 undef=.map (some r):=(kL (ts:=[3]) (by decide) 3 (by simp)).trans h3
 have hl:(((aq c 11).toList.drop 1).take 3).length=3:=by simp[T.Hh]
 have key:wpOps P (aq c 11) Q (idx 1 (((aq c 11).toList.drop 1).take 3).length++(4::[])) (a.put (some 38) (.map (some r))) w2:=by
  refine cW ok hnew (i:=1) (next:=417) (ts:=[3,38]) (s:=pK x i y r5 b) (r:=oG x i y r5 b r5) zC T.Ia ?_ A1 fun a2 w3 g2 A2 k2=>?_
  ·show aU E (aq c 11) _ (pK x i y r5 b) 433=_
   rw[T.H9,hp];rfl
  ·rw[hl]at A2
   have m38:a2.tmps.getD 38 undef=.map (some r):=(k2 38 (by simp)).trans t38
   have m3:a2.tmps.getD 3 undef=.map (some r):=(k2 3 (by simp)).trans t3
   have h40:a2.tmps.getD 40 undef=gH (rk r5):=As (by have h:=A2.fA 40;rw[show getS (oG x i y r5 b r5).1 40=va (il (rk r5)) by kernel_rfl]at h;exact h)
   obtain⟨w4,hu,hM4,hsz,hoth,ho1,ho2,ho3⟩:=wA hmap hwide eq hchk (hM.au A2.ext) (rk r5) hni (a2.tmps.getD 41 undef);obtain⟨oU,u1,u2,u3,u4⟩:=T.HM.get;refine tR u1 u2 (w':=w4) ?_ ?_
   ·unfold execOp
    rw[u4];show (Instr.mapUpdate tM (a2.tmps.getD 38 undef) (a2.tmps.getD 40 undef) (a2.tmps.getD 41 undef) >>= fun _=>pure Next.skip).run P w3=_
    rw[m38,h40,Sem.run_bind,hu];rfl
   ·rw[u3]
    have hnr:¬g2.ro r:=fun h=>(A2.ext.dr r h).elim hro fun h=>h.2 rfl
    obtain⟨e',A4⟩:=AE e (fun b h=>h.1) A2 (fun b _ h=>h) hnr hmr ho1 ho2 ho3 (Nat.le_of_eq hsz.symm) (fun b hb _=>hoth b hb)
    exact hK a2 w4 ⟨gK [] g2,w4,e',gV,hnr,hmr,fun b hb=>hmt b (Nat.le_trans A2.ext.size (by rw[←hsz];exact hb)),hM4,⟨g2,A4.put (v:=.dead) (V:=undef) trivial none (nx':=497) (by simp only[keys];omega)⟩,m3⟩
 rw[hl]at key;exact key
include hzero
theorem zU{Q:Exit→Act→World→Prop}{i:Int}{y:bM}{r5:R5}(hp:pl y=some r5){a:Act}{w2:World}{ks:List bM}(hG:MG mt g w N r (q7 x i y) 161 a w2 ks)
  (hK:∀a' w',MG mt g w N r (q8 x i y r5 (decide (rk r5∈ks))) 305 a' w' ks→Q .normal a' w'):(Code.region 8 (aq c 8) false).wp P Q a w2:=by
 obtain⟨g1,w1,e,hφ,hro,hmr,hmt,hM,⟨g',A⟩,h3⟩:=hG;have hnew:=rA hmt hM;refine wp_region ?_;rw[T.s8];show wpOps P (aq c 8) Q (0::(idx 1 2++(3::(idx 4 5++[])))) a w2;obtain⟨oV,v1,v2,v3,v4⟩:=T.Ih.get;refine gW v1 v2 (uh v4) ?_;rw[v3,h3];have A1:=A.l9 (v:=.dead) (V:=.map (some r)) trivial (some 25) (sl':=(vA x i y).1) (H':=hget (vA x i y).2) (nx':=161+keys*1) (by kernel_rfl) (by kernel_rfl) (by simp only[keys];omega)
 have t25:(a.put (some 25) (.map (some r))).tmps.getD 25 undef=.map (some r):=jT (by rw[A.gz.2];omega)
 have t3:(a.put (some 25) (.map (some r))).tmps.getD 3 undef=.map (some r):=(kL (ts:=[3]) (by decide) 3 (by simp)).trans h3
 have hl:(((aq c 8).toList.drop 1).take 2).length=2:=by simp[T.s8]
 have hl2:((aq c 8).toList.drop 4).length=5:=by simp[T.s8]
 have key:wpOps P (aq c 8) Q (idx 1 (((aq c 8).toList.drop 1).take 2).length++(3::(idx 4 5++[]))) (a.put (some 25) (.map (some r))) w2:=by
  refine cW ok hnew (i:=1) (next:=161) (ts:=[3,25]) (s:=vA x i y) (r:=Ar x i y r5) zC T.Ic ?_ A1 fun a2 w3 g2 A2 k2=>?_
  ·show aU E (aq c 8) _ (vA x i y) 177=_
   rw[T.Ig,hp];rfl
  ·rw[hl]at A2
   have m25:a2.tmps.getD 25 undef=.map (some r):=(k2 25 (by simp)).trans t25
   have m3:a2.tmps.getD 3 undef=.map (some r):=(k2 3 (by simp)).trans t3
   have h27:a2.tmps.getD 27 undef=gH (rk r5):=As (by have h:=A2.fA 27;rw[show getS (Ar x i y r5).1 27=va (il (rk r5)) by kernel_rfl]at h;exact h)
   obtain⟨v,hv⟩:=vX hmap hwide eq hchk hzero (hM.au A2.ext) (rk r5);obtain⟨oL,l1,l2,l3,l4⟩:=T.Ie.get;refine gW l1 l2 (V:=.tuple #[v,.bool (decide (rk r5∈ks))]) (w':=w3) ?_ ?_
   ·unfold execOp
    rw[l4];show (Instr.lookup tM (a2.tmps.getD 25 undef) (a2.tmps.getD 27 undef) true >>= fun v=>pure (Next.value v)).run P w3=_
    rw[m25,h27,Sem.run_bind,hv];rfl
   ·rw[l3]
    have A3:=A2.l9 (v:=.tup [.c .dead,.c (.bool (decide (rk r5∈ks)))]) (V:=.tuple #[v,.bool (decide (rk r5∈ks))]) ⟨[v,.bool (decide (rk r5∈ks))],rfl,trivial,rfl,trivial⟩ (some 28) (sl':=(wF x i y r5 (decide (rk r5∈ks))).1) (H':=hget (wF x i y r5 (decide (rk r5∈ks))).2) (nx':=161+keys*4) (by kernel_rfl) (by kernel_rfl) (by simp only[keys];omega)
    have k3:(a2.put (some 28) (.tuple #[v,.bool (decide (rk r5∈ks))])).tmps.getD 3 undef=.map (some r):=(kL (ts:=[3]) (by decide) 3 (by simp)).trans m3
    have key2:wpOps P (aq c 8) Q (idx 4 ((aq c 8).toList.drop 4).length++[]) (a2.put (some 28) (.tuple #[v,.bool (decide (rk r5∈ks))])) w3:=by
     refine cW ok hnew (i:=4) (next:=161) (ts:=[3]) (s:=wF x i y r5 (decide (rk r5∈ks))) (r:=q8 x i y r5 (decide (rk r5∈ks))) EX T.n8 (T.h8 x i y r5 _) A3 fun a4 w4 g4 A4 k4=>?_
     rw[hl2]at A4;exact hK a4 w4 ⟨g1,w1,e,hφ,hro,hmr,hmt,hM,⟨g4,A4⟩,(k4 3 (by simp)).trans k3⟩
    rw[hl2]at key2;exact key2
 rw[hl]at key;exact key
variable (h40:(its x).length=40)
include hkeep hm h40
theorem Av{b:Bool}{Q:Exit→Act→World→Prop}(hexit:∀a w2 ks,MG mt g w N r (q5 x ((40:Nat):Int)) 17 a w2 ks→b=true→Q (.exit 0) a w2)
  (hret:∀(s:SH) (nx:Nat) a w2 ks,MG mt g w N r s nx a w2 ks→getS s.1 2=vb false→b=false→Q .ret a w2) :
  ∀(l:List bM) (i:Nat) (ks:List bM),(its x).drop i=l→i+l.length=40→chkGo pl (my x) l ks=some b→∀a w2,MG mt g w N r (qh x (i:Int)) 1 a w2 ks→ki P (uR c) Q a w2:=by
 intro l
 induction l with
 | nil =>
  intro i ks hd hi hb a w2 hG;obtain rfl:i=40:=by simpa using hi
  have hbt:b=true:=by simp only[chkGo,Option.some.injEq]at hb;exact hb.symm
  refine jF (wp_seq (hG.region ok (T.h5 x _) T.n5 (nx':=17) (by rw[T.s5];rfl) fun a1 w3 G1=>?_))
  refine wp_seq (wp_cond_false (G1.bool (t:=17) (b:=false) ?_) (wp_exit ?_))
  ·refine Eq.trans (b:=vb (decide (((40:Nat):Int)<((its x).length:Int)))) (by kernel_rfl) ?_
   rw[h40];rfl
  ·exact hexit a1 w3 ks G1 hbt
 | cons y l ih =>
  intro i ks hd hi hb a w2 hG;have hi40:i<40:=by simp only[List.length_cons]at hi;omega
  have hy:(its x).getD i (0,0,0,0)=y:=by
   have:=congrArg (fun l=>l[0]?) hd
   simp only[List.getElem?_drop,Nat.add_zero,List.getElem?_cons_zero]at this;rw[List.getD_eq_getElem?_getD,this];rfl
  have hd':(its x).drop (i+1)=l:=by rw[←List.drop_drop,hd];rfl
  have hwrap:IntKind.wrap .i64 ((i:Int)+1)=((i+1:Nat):Int):=by
   have e:∀z:Int,IntKind.wrap .i64 z=if z%18446744073709551616≥9223372036854775808 then z%18446744073709551616-18446744073709551616 else z%18446744073709551616:=fun z=>by simp[IntKind.wrap,IntKind.signed,IntKind.bits]
   rw[e];have:((i:Int)+1)%18446744073709551616=(i:Int)+1:=by omega
   rw[this,if_neg (by omega)];omega
  have next:∀(s:SH) (nx:Nat) (a:Act) (w2:World) (ks':List bM),MG mt g w N r (oY s i) nx a w2 ks'→dj kA E.m E.au ⟨(oY s i).1,(oY s i).2,nx⟩ some=some (hx x (IntKind.wrap .i64 ((i:Int)+1)))→chkGo pl (my x) l ks'=some b→ki P (uR c) Q a w2:=fun s nx a w2 ks' G hdec hgo=>by
   have G2:=G.head hm hkeep hN hdec;rw[hwrap]at G2;exact ih (i+1) ks' hd' (by simp only[List.length_cons]at hi;omega) hgo a w2 G2
  refine jF (wp_seq (hG.region ok (T.h5 x _) T.n5 (nx':=17) (by rw[T.s5];rfl) fun a1 w3 G1=>?_))
  refine wp_seq (wp_cond_true (G1.bool (t:=17) (b:=true) ?_) (wp_skip ?_))
  ·refine Eq.trans (b:=vb (decide ((i:Int)<((its x).length:Int)))) (by kernel_rfl) ?_
   rw[h40,decide_eq_true (show (i:Int)<((40:Nat):Int) by omega)]
  refine wp_seq (wp_block ?_);have e6:aU E (aq c 6) (aq c 6).toList (q5 x i) 17=some (q6 x i y):=by
   have e:=T.h6 x (i:Int);have hr:ae (i:Int) (its x).length=true:=by
    unfold ae;rw[h40];exact decide_eq_true (by omega)
   rw[hr,Int.toNat_natCast,hy]at e;exact e
  refine wp_seq (G1.region ok e6 T.n6 (nx':=113) (by rw[T.s6];rfl) fun a2 w4 G2=>?_)
  refine wp_seq (wp_seq (G2.region ok (T.h7 x _ y) T.n7 (nx':=161) (by rw[T.s7];rfl) fun a3 w5 G3=>?_))
  by_cases hz:y=(0,0,0,0)
  ·refine wp_cond_true (G3.bool (t:=23) (b:=true) ?_) (wp_exit ?_)
   ·rw[hz];kernel_rfl
   ·rw[chkGo,if_pos hz]at hb
    refine AO (qx ?_);exact G3.region ok (T.HT x i y) T.Hr (nx':=193) (by rw[T.G9];rfl) fun a4 w6 G4=>next (q7 x i y) 193 a4 w6 ks G4 (T.HK x i y) hb
  ·have hzb:(y.1==0&&(y.2.1==0&&(y.2.2.1==0&&(y.2.2.2==0&&true))))=false:=by
    obtain⟨y1,y2,y3,y4⟩:=y;rw[Bool.eq_false_iff];intro hc;simp only[Bool.and_eq_true,beq_iff_eq,Bool.and_true]at hc;obtain⟨rfl,rfl,rfl,rfl⟩:=hc;exact hz rfl
   refine wp_cond_false (G3.bool (t:=23) (b:=false) (Eq.trans (b:=vb (y.1==0&&(y.2.1==0&&(y.2.2.1==0&&(y.2.2.2==0&&true))))) (by kernel_rfl) (congrArg vb hzb))) (wp_skip ?_)
   rw[chkGo,if_neg hz]at hb;cases hp:pl y with
   | none=>rw[hp]at hb;cases hb
   | some r5 =>
    rw[hp]at hb
    simp only at hb
    refine wp_seq (wp_seq (zU T ok hmap hwide eq hchk hzero hN hp G3 fun a4 w6 G4=>?_))
    by_cases hk:rk r5∈ks
    ·rw[if_pos hk]at hb
     rw[decide_eq_true hk]at G4;refine wp_seq (G4.region ok (T.HY x i y r5) T.n9 (nx':=417) (by rw[T.s9];rfl) fun a5 w7 G5=>?_)
     refine wp_cond_true (G5.bool (t:=37) (b:=true) (by kernel_rfl)) (wp_seq (G5.region ok (T.HH x i y r5) T.Hs rfl fun a6 w8 G6=>wp_ret ?_))
     exact hret _ _ a6 w8 ks G6 (by kernel_rfl) (by simpa using hb.symm)
    ·rw[if_neg hk]at hb
     rw[decide_eq_false hk]at G4;cases hmy:my x y with
     | none=>rw[hmy]at hb;cases hb
     | some bb =>
      rw[hmy]at hb
      simp only at hb
      have e9:aU E (aq c 9) (aq c 9).toList (q8 x i y r5 false) 305=some (vz x i y r5 bb.1):=by rw[T.HW,hmy];rfl
      refine wp_seq (G4.region ok e9 T.n9 (nx':=417) (by rw[T.s9];rfl) fun a5 w7 G5=>?_)
      cases hbb:bb.1 with
      | false =>
       rw[hbb]at hb G5;refine wp_cond_true (G5.bool (t:=37) (b:=true) (by kernel_rfl)) (wp_seq (G5.region ok (T.HR x i y r5 false) T.Hs rfl fun a6 w8 G6=>wp_ret ?_))
       exact hret _ _ a6 w8 ks G6 (by kernel_rfl) (by simpa using hb.symm)
      | true =>
       rw[hbb]at hb G5;rw[if_pos rfl]at hb;refine wp_cond_false (G5.bool (t:=37) (b:=false) (by kernel_rfl)) (wp_skip ?_)
       refine ye T ok hmap hwide eq hchk hN hp hk G5 fun a6 w8 G6=>?_
       exact G6.region ok (T.HS x i y r5 true r5) T.Hr (nx':=529) (by rw[T.G9];rfl) fun a7 w9 G7=>next (oG x i y r5 true r5) 529 a7 w9 (ks++[rk r5]) G7 (T.HN x i y r5 true r5) hb
end
theorem AW{E : Env}{c : Code}{tM tX tI : Nat}{pl : bM → Option R5}{my : bq → bM → Option (Bool × Unit)}{f : Nat}{fn : Func}(hf : P.funcs[f]? = some fn)(hb : fn.body = some (Er c))(hname : (fn.name == "runtime.NumGoroutine") = false)(hnt : fn.ntmps = 43)(hres : fn.results = #[.tmp 2])
    (T:o5 E c tM pl my) (ok:dk P E) (hkeep:E.au=[]) (hm:E.m=0)
    (hmap:P.underlying tM=some (.map tX tI)) (hwide:(match P.underlying tX with | some (.array _ _) | some (.struct _)=>true | _=>false)=true) (eq:ic P tX k4)
    (hchk:∀(em:Bool) (k:bM) (w:World),(Instr.checkKey em 10000 tX (gH k)).run P w=.ok () w) (hzero:∀w,(zeroValue tI).run P w=.ok (.int .i64 0) w) :
    Sound P f ⟨zT,iP,[],fun x=>tN pl my x⟩:=by
  refine⟨rfl,rfl,fun x res hr mt g w vs as os L M hmt hg hargs=>.inl ⟨?_,?_⟩⟩
  · have hbn:fn.body.isNone=false:=by rw[hb];rfl
    simp only[callFunc,Sem.run_bind,run_program,Result.andThen_ok,hf,hname,hbn,Bool.false_eq_true,if_false,Sem.run_pure]
  · have hr:tN pl my x=some res:=hr
    obtain⟨rfl,rfl⟩:=L.same (as':=[(0,.agg (wl x))]) (os':=[]) fun K=>rfl
    have e0:Ext mt (gK [] g) w g w:=⟨rfl,rfl,rfl,Nat.le_refl _,fun _ _ _=>rfl,fun _ h=>h,fun _ h=>.inl h,fun n Q h=>by rw[gV]at h;cases h⟩
    have finE:∀(s:SH) (nx:Nat) (b:Bool),getS s.1 2=vb b→fin E fn iP .ret ⟨s.1,s.2,nx⟩=some (b,()):=fun s nx b h=>by
      have h2:resAV ⟨s.1,s.2,nx⟩ E.ti (.tmp 2)=some (.c (.bool b)):=by
        show svA (getS s.1 2)=_;rw[h];rfl
      unfold fin;rw[hres];show iQ E.au _ (nthO [resAV ⟨s.1,s.2,nx⟩ E.ti (.tmp 2)]) iP id=_;rw[h2,hkeep];rfl
    have fin0:∀(mtA:Nat→Prop) (g1:Gh) (w1:World) (N:Nat) (s:SH) (nx:Nat) (a:Act) (w2:World) (b:Bool),(∀b,mtA b→mt b)→(∀n,g1.φ n=none)→Ext mt (gK [] g) w g1 w1→Inv mtA g1 w1 [] N ⟨s.1,s.2,nx⟩ a w2→getS s.1 2=vb b→res=(b,()) →
        bodyPost P fn (fun ed w2=>∃V,ed=.returned V∧kV iP res fun _ as' os'=>∃g',Ext mt (gK [] g) w g' w2∧Mem mt g' (hget os') w2.heap∧aV g' w2.heap (fG as') V) .ret a w2:=fun mtA g1 w1 N s nx a w2 b sub hφ e hI hs hrb=>by
      subst hrb;obtain⟨_,h3,V,h4,h5⟩:=gJ (P:=P) (mt:=mtA) (g0:=g1) (w0:=w1) (ds:=[]) (N:=N) ok.1 (fun n _=>hφ n) (outs:=iP) rfl (finE s nx b hs) hI
      refine⟨h3,V,h4,V,rfl,?_⟩;obtain⟨as',os',L',g',k1,k2,k3⟩:=h5;refine⟨as',os',L',g',?_,k2.less fun b _ h=>sub b h,k3⟩
      exact e.trans (k1.more sub)
    have fin1:∀(N r:Nat) (s:SH) (nx:Nat) (a:Act) (w2:World) (ks:List bM) (b:Bool),MG mt g w N r s nx a w2 ks→getS s.1 2=vb b→res=(b,()) →
        bodyPost P fn (fun ed w2=>∃V,ed=.returned V∧kV iP res fun _ as' os'=>∃g',Ext mt (gK [] g) w g' w2∧Mem mt g' (hget os') w2.heap∧aV g' w2.heap (fG as') V) .ret a w2:=fun N r s nx a w2 ks b ⟨g1,w1,e,hφ,hro,hmr,hmt',hM,hI,h3⟩ hs hrb =>
      fin0 _ g1 w1 N s nx a w2 b (fun b h=>h.1) hφ e hI hs hrb
    refine calls_of_wp hf hb ?_;have hsz:43≤(vs++Array.replicate (fn.ntmps-vs.size) undef).size:=by simp[hnt];omega
    have A0:bV mt (gK [] g) w (hget (q0 x).2) (q0 x).1 0 [] (vs++Array.replicate (fn.ntmps-vs.size) undef).size {tmps:=vs++Array.replicate (fn.ntmps-vs.size) undef,defers:=[]} w g:=by
      rw[show (q0 x).1=(cf 43).set 0 (va (wl x)) by kernel_rfl,show (q0 x).2=[] by kernel_rfl]
      refine⟨e0,M,?_,?_,hg,rfl,rfl⟩
      · have:=iy (g:=g) (hp:=w.heap) (a:={tmps:=vs++Array.replicate (fn.ntmps-vs.size) undef,defers:=[]}) [(0,.agg (wl x))] (cf 43) (fun i y hi=>?_) (fun t=>by rw[dO];trivial)
        · exact this
        · have h2:=hargs i y hi
          have:(vs++Array.replicate (fn.ntmps-vs.size) undef).getD i undef=vs.getD i undef:=by
            simp only[Array.getD_eq_getD_getElem?,Array.getElem?_append];split
            · rfl
            · rename_i hlt
              rw[Array.getElem?_eq_none (xs:=vs) (Nat.not_lt.1 hlt),Array.getElem?_replicate];split<;>rfl
          rw[this];exact h2
      · show ((cf 43).set 0 (va (wl x))).length≤_
        rw[List.length_set,fS];exact hsz
    generalize (vs++Array.replicate (fn.ntmps-vs.size) undef).size=N at hsz A0;generalize ({tmps:=vs++Array.replicate (fn.ntmps-vs.size) undef,defers:=[]}:Act)=a0 at A0 ⊢;refine wp_seq (cU ok hmt (ts:=[]) (T.h0 x) (cK _) A0 fun a1 w1 g1 A1 _=>?_)
    rw[T.s0]at A1;refine wp_seq (wp_seq (cU ok hmt (ts:=[]) (next:=32) (T.h1 x) (cK _) A1 fun a2 w2 g2 A2 _=>?_))
    rw[T.s1]at A2;have hc:a2.eval (.tmp 11)=.bool (((its x).length:Int) !=40):=by
      have h:=aM A2.fA (.tmp 11);rw[show rd (q2 x).1 (.tmp 11)=vb (((its x).length:Int) !=40) by kernel_rfl]at h
      exact h
    unfold tN at hr
    by_cases h40:(its x).length=40
    · rw[if_pos h40]at hr
      obtain⟨b,hgo,hrb⟩:=Option.map_eq_some_iff.1 hr;rw[h40]at hc;refine wp_cond_false hc (wp_skip ?_);refine wp_seq (wp_region ?_);rw[T.s3];show wpOps P (aq c 3) _ [0,1] a2 w2;obtain⟨oM,m1,m2,m3,m4⟩:=T.H8.get;obtain⟨oA,p1,p2,p3,p4⟩:=T.Ib.get;refine gW m1 m2 (V:=.map (some w2.heap.size)) (w':={w2 with heap:=w2.heap.push (.map #[] 0)}) ?_ ?_
      · unfold execOp
        rw[m4];rfl
      rw[m3];refine gW p1 p2 (yz p4) ?_;rw[p3,jT (by rw[A2.gz.2];omega)]
      have hnr:¬g2.ro w2.heap.size:=fun h=>absurd (A2.mem.ro _ h) (Nat.lt_irrefl _)
      have hmr:mt w2.heap.size:=hmt _ A2.ext.size;obtain⟨e',A3⟩:=AE (mt:=mt) (mtA:=mt) (w3:={w2 with heap:=w2.heap.push (.map #[] 0)}) (r:=w2.heap.size) (show Ext mt (gK [] g) w (gK [] g) w from Ext.refl _ _ _) (fun b h=>h) A2 (fun b hb h=>⟨h,Nat.ne_of_lt hb⟩) hnr hmr rfl rfl rfl (by simp) (fun b _ hb=>dW _ _ _ hb)
      have A4:=A3.put (v:=.dead) (V:=.map (some w2.heap.size)) trivial (some 12) (Nat.le_refl _);have A5:=A4.l9 (v:=.dead) (V:=.map (some w2.heap.size)) trivial (some 3) (sl':=(q3 x).1) (H':=hget (q3 x).2) (nx':=128) (by kernel_rfl) (by kernel_rfl) (by simp only[keys];omega)
      have G0:MG mt g w N w2.heap.size (q3 x) 128 ((a2.put (some 12) (.map (some w2.heap.size))).put (some 3) (.map (some w2.heap.size))) {w2 with heap:=w2.heap.push (.map #[] 0)} []:=by
        refine⟨gK [] g2,_,e',gV,hnr,hmr,fun b hb=>hmt b (Nat.le_trans A2.ext.size (Nat.le_trans (by simp) hb)),⟨#[],0,fN _ _,rfl⟩,⟨g2,A5⟩,jT (by rw[bP,A2.gz.2];omega)⟩
      show (Code.seq _ _).wp P _ _ _;refine wp_seq (wp_seq (G0.region ok (T.h4 x) T.n4 (nx':=192) (by rw[T.s4];rfl) fun a3 w3 G1=>?_))
      have G2:=G1.head hm hkeep hsz (T.d4 x);refine wp_block (qN (Av T ok hkeep hm hmap hwide eq hchk hzero hsz h40 (b:=b) (fun a4 w4 ks G3 hbt=>?_) (fun s nx a4 w4 ks G3 hs hbf=>?_) (its x) 0 [] rfl (by simpa using h40) hgo a3 w3 G2))
      · refine qx ?_
        refine wp_seq (G3.region ok (T.H3 x _) T.HX rfl fun a5 w5 G4=>wp_ret ?_)
        exact fin1 _ _ _ _ a5 w5 ks true G4 (by kernel_rfl) (by rw[←hrb,hbt])
      · exact fin1 _ _ s nx a4 w4 ks false G3 hs (by rw[←hrb,hbf])
    · rw[if_neg h40]at hr
      have hr:=Option.some.inj hr;have hne:(((its x).length:Int) !=40)=true:=by
        rw[bne_iff_ne];omega
      rw[hne]at hc;refine wp_cond_true hc (wp_seq (cU ok hmt (ts:=[]) (next:=96) (T.h2 x) (cK _) A2 fun a3 w3 g3 A3 _=>wp_ret ?_))
      exact fin0 mt (gK [] g) w N ((q2 x).1.set 2 (vb false),(q2 x).2) _ a3 w3 false (fun _ h=>h) gV (Ext.refl _ _ _) ⟨g3,A3⟩ (by kernel_rfl) hr.symm
end Go.Proofs.YthdgahpomhnidaaGreat.Mx

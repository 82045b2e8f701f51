import Derived.SizedLaws
import Derived.Below
import Derived.Carry
import Derived.OpenShut
import Derived.Laws.StructEq
import Derived.ChangeKeysEq
import Derived.Test.YthdgahpomhnidaaGreatZ6
set_option linter.unusedSimpArgs false
set_option linter.unusedVariables false
set_option autoImplicit false
namespace Go.Proofs.YthdgahpomhnidaaGreat.Mx
open Go Go.ChangeShapes Go.WideShapes Go.RowKit
def isNat(a b:Nat):Bool:=Nat.beq a b
mutual
def tyAt(P:Program):Nat→Ty→TypeId→Bool
 | 0,_,_=>false
 | n+1,e,t=>match P.underlying t with
  | some (.int k)=>match e with
   | .int k'=>decide (k'=k)&&isNat (P.cellsOf t) 1
   | _=>false
  | some .bool=>match e with
   | .bool=>isNat (P.cellsOf t) 1
   | _=>false
  | some .string=>match e with
   | .str=>isNat (P.cellsOf t) 1
   | _=>false
  | some (.slice q)=>match e with
   | .row e'=>isNat (P.cellsOf t) 1&&tyAt P n e' q
   | _=>false
  | some (.struct fs)=>isNat (P.cellsOf t) e.size&&tyF P n e (fs.toList.map fun f=>(f.offset,f.type)) 0
  | some (.array m q)=>isNat (P.cellsOf t) e.size&&tyF P n e ((List.range m).map fun i=>(i*P.cellsOf q,q)) 0
  | _=>false
def tyF(P:Program):Nat→Ty→List (Nat×TypeId)→Nat→Bool
 | 0,_,_,_=>false
 | _+1,_,[],_=>false
 | n+1,e,[f],off=>isNat f.1 off&&tyAt P n e f.2
 | n+1,e,f::g::r,off=>match e with
  | .prod a b=>isNat f.1 off&&tyAt P n a f.2&&tyF P n b (g::r) (off+a.size)
  | _=>false
end
def Ty.bG:(e:Ty)→e.T→Prop
 | .int k,n=>(Lit.int k n).wf=true
 | .bool,_=>True
 | .str,_=>True
 | .row e,l=>(List.length l≤maxLen)∧∀x∈(show List e.T from l),e.bG x
 | .prod a b,x=>a.bG x.1∧b.bG x.2
 | .ifc,_=>True
theorem iw{P:Program}{n:Nat}{e:Ty}{t:TypeId}(h:tyAt P n e t=true):P.cellsOf t=e.size:=by
 cases n with
 | zero=>simp[tyAt]at h
 | succ n =>
  unfold tyAt at h;split at h
  ·cases e<;>simp_all [isNat,Ty.size]
  ·cases e<;>simp_all [isNat,Ty.size]
  ·cases e<;>simp_all [isNat,Ty.size]
  ·cases e<;>simp_all [isNat,Ty.size]
  ·simp_all [isNat]
  ·simp_all [isNat]
  ·cases h
theorem mapM_cons{α β:Type}{f:α→Option β}{a:α}{l:List α}{r:List β}(h:(a::l).mapM f=some r):∃b s,f a=some b∧l.mapM f=some s∧r=b::s:=by
 simp only[List.mapM_cons]at h;cases ha:f a with
 | none=>simp[ha]at h
 | some b =>
  cases hl:l.mapM f with
  | none=>simp[ha,hl]at h
  | some s=>simp[ha,hl]at h;exact⟨b,s,rfl,rfl,h.symm⟩
theorem uG{α β:Type}{f:α→Option β}:∀{l:List α} {r:List β},l.mapM f=some r→r.length=l.length
 | [],r,h=>by simp at h;subst h;rfl
 | a::l,r,h=>by
  obtain⟨b,s,_,h2,rfl⟩:=mapM_cons h;simp[uG h2]
theorem pP{α β:Type}{f:α→Option β}:∀{l:List α} {r:List β} {i:Nat} {a:α},l.mapM f=some r→l[i]?=some a→∃b,f a=some b∧r[i]?=some b
 | a::l,r,0,x,h,hi=>by
  obtain⟨b,s,h1,h2,rfl⟩:=mapM_cons h;simp at hi;subst hi;exact⟨b,h1,rfl⟩
 | a::l,r,i+1,x,h,hi=>by
  obtain⟨b,s,h1,h2,rfl⟩:=mapM_cons h;simp at hi;obtain⟨c,k1,k2⟩:=pP h2 hi;exact⟨c,k1,by simpa using k2⟩
 | [],_,_,_,_,hi=>by simp at hi
theorem iL{w:World}{base:Nat}{a:Addr}{n:Nat}{vs:List Value}(hn:0<n)(h:w.cells? base a n=some vs) :
  ∃cs t fz,a=⟨a.block,a.off,none⟩∧w.heap[a.block]?=some (.cells cs t fz)∧vs=(cs.toList.drop a.off).take n∧a.off+n≤cs.size:=by
 unfold World.cells? at h;split at h
 ·have hl:=uG h
  rw[List.length_range]at hl;obtain⟨v,h1,_⟩:=pP (i:=0) (a:=0) h (by simp[hn])
  have h1:w.cell? a=some v:=h1;obtain⟨b,o,sp⟩:=a;unfold World.cell? at h1;split at h1
  ·rename_i cs t fz hc
   split at h1
   ·cases h1
   ·rename_i hs
    have hsp:sp=none:=by cases sp<;>simp_all
    subst hsp;have key:∀i,i<n→cs[o+i]?=vs[i]?:=by
     intro i hi;obtain⟨v,k1,k2⟩:=pP (i:=i) (a:=i) h (by simp[hi])
     rw[k2,←k1];have hc:w.heap[b]?=some (.cells cs t fz):=hc;rcases Nat.eq_zero_or_pos i with rfl | hp
     ·simp[World.cell?,Addr.add,hc]
     ·simp[World.cell?,Addr.add,hc,Nat.ne_of_gt hp]
    have hsz:o+n≤cs.size:=by
     have:=key (n-1) (by omega)
     rw[List.getElem?_eq_getElem (by omega)]at this
     have:=(Array.getElem?_eq_some_iff.1 this).1;omega
    refine⟨cs,t,fz,rfl,hc,?_,hsz⟩;apply List.ext_getElem?;intro i;rcases Nat.lt_or_ge i n with hi | hi
    ·rw[←key i hi,List.getElem?_take_of_lt hi,List.getElem?_drop,Array.getElem?_toList]
    ·rw[List.getElem?_eq_none (by omega),List.getElem?_eq_none (by simp;omega)]
  ·cases h1
 ·cases h
section
variable {H:Type} {enc:TypeId×Value→H} {P:Program} {w:World} {base:Nat} {spare:Nat→Bool} {held:Bool} {ro:Nat→Prop}
theorem mP{fuel n:Nat}
  (ih:∀(e:Ty) (t:TypeId) (cs:List Value) (x:DataW H×List MemPlace),tyAt P n e t=true→DataW.trod enc P w base spare held fuel t cs=some x→∃y:e.T,Rd ro w.heap e y cs∧e.bG y)
  (sub:∀m≤n,∀(e:Ty) (t:TypeId),tyAt P m e t=true→tyAt P n e t=true) :
  ∀(m:Nat),m≤n+1→∀(e:Ty) (fs:List (Nat×TypeId)) (off:Nat) (cs:List Value),tyF P m e fs off=true→off+e.size≤cs.length →
   (∀f∈fs,∃x,DataW.trod enc P w base spare held fuel f.2 ((cs.drop f.1).take (P.cellsOf f.2))=some x)→∃y:e.T,Rd ro w.heap e y ((cs.drop off).take e.size)∧e.bG y
 | 0,_,e,fs,off,cs,h,_,_=>by simp[tyF]at h
 | m+1,_,e,[],off,cs,h,_,_=>by simp[tyF]at h
 | m+1,hm,e,[f],off,cs,h,hl,hx=>by
  simp only[tyF,Bool.and_eq_true,isNat,Nat.beq_eq]at h;obtain⟨b,h1⟩:=hx f (by simp)
  have:=ih e f.2 _ _ (sub m (by omega) _ _ h.2) h1
  rw[iw h.2,h.1]at this;exact this
 | m+1,hm,e,f::g::r,off,cs,h,hl,hx=>by
  cases e with
  | prod a b =>
   simp only[tyF,Bool.and_eq_true,isNat,Nat.beq_eq]at h;obtain⟨c,h1⟩:=hx f (by simp)
   obtain⟨y,k1,k2⟩:=ih a f.2 _ _ (sub m (by omega) _ _ h.1.2) h1
   rw[iw h.1.2,h.1.1]at k1;simp only[Ty.size]at hl;obtain⟨z,k3,k4⟩:=mP ih sub m (by omega) b (g::r) (off+a.size) cs h.2 (by omega) fun f hf=>hx f (List.mem_cons_of_mem _ hf)
   refine⟨(y,z),⟨_,_,?_,k1,k3⟩,k2,k4⟩;rw[show (Ty.prod a b).size=a.size+b.size from rfl,List.take_add,List.drop_drop]
  | int _=>simp[tyF]at h
  | bool=>simp[tyF]at h
  | str=>simp[tyF]at h
  | ifc=>simp[tyF]at h
  | row _=>simp[tyF]at h
theorem sL(P:Program):∀(n:Nat),(∀(e:Ty) (t:TypeId),tyAt P n e t=true→tyAt P (n+1) e t=true)∧∀(e:Ty) (fs:List (Nat×TypeId)) (off:Nat),tyF P n e fs off=true→tyF P (n+1) e fs off=true
 | 0=>⟨fun e t h=>by simp[tyAt]at h,fun e fs off h=>by simp[tyF]at h⟩
 | n+1=>by
  obtain⟨i1,i2⟩:=sL P n;constructor
  ·intro e t h
   unfold tyAt at h ⊢;split at h<;>rename_i hu<;>first | cases h | skip
   ·exact h
   ·exact h
   ·exact h
   ·cases e with
    | row e'=>simp only[Bool.and_eq_true]at h ⊢;exact⟨h.1,i1 _ _ h.2⟩
    | int _=>cases h
    | bool=>cases h
    | str=>cases h
    | ifc=>cases h
    | prod _ _=>cases h
   ·simp only[Bool.and_eq_true]at h ⊢;exact⟨h.1,i2 _ _ _ h.2⟩
   ·simp only[Bool.and_eq_true]at h ⊢;exact⟨h.1,i2 _ _ _ h.2⟩
  ·intro e fs off h
   cases fs with
   | nil=>simp[tyF]at h
   | cons f r =>
    cases r with
    | nil=>unfold tyF at h ⊢;simp only[Bool.and_eq_true]at h ⊢;exact⟨h.1,i1 _ _ h.2⟩
    | cons g r =>
     cases e with
     | prod a b=>unfold tyF at h ⊢;simp only[Bool.and_eq_true]at h ⊢;exact⟨⟨h.1.1,i1 _ _ h.1.2⟩,i2 _ _ _ h.2⟩
     | int _=>simp[tyF]at h
     | bool=>simp[tyF]at h
     | str=>simp[tyF]at h
     | ifc=>simp[tyF]at h
     | row _=>simp[tyF]at h
theorem xL{P:Program}{m n:Nat}(h:m≤n):∀(e:Ty) (t:TypeId),tyAt P m e t=true→tyAt P n e t=true:=by
 induction h with
 | refl=>exact fun _ _ h=>h
 | step _ ih=>exact fun e t h=>(sL P _).1 e t (ih e t h)
theorem Al{e:Ty}{q:TypeId}{a:Addr}{T:List Value→Option (DataW H×List MemPlace)}
  (ih:∀(cs:List Value) (x:DataW H×List MemPlace),T cs=some x→∃y:e.T,Rd ro w.heap e y cs∧e.bG y) {cs:Array Value} {len:Nat} {c:Nat}
  (hcs:∀i vs,i<len→w.cells? base (a.add (i*c)) c=some vs→vs=(cs.toList.drop (a.off+i*e.size)).take e.size)
  (hx:∀i,i<len→∃x,(w.cells? base (a.add (i*c)) c).bind T=some x) :
  ∀(k j:Nat),j+k=len→∃l:List e.T,l.length=k∧(∀x∈l,e.bG x)∧RdL (Rd ro w.heap e) l ((cs.toList.drop (a.off+j*e.size)).take (k*e.size))
 | 0,j,_=>⟨[],rfl,fun _ h=>(List.not_mem_nil h).elim,by simp[RdL]⟩
 | k+1,j,hj=>by
  obtain⟨b,h1⟩:=hx j (by omega)
  obtain⟨l,k1,k2,k3⟩:=Al (q:=q) ih hcs hx k (j+1) (by omega)
  cases hv:w.cells? base (a.add (j*c)) c with
  | none=>rw[hv]at h1;cases h1
  | some vs =>
   rw[hv]at h1;obtain⟨y,q1,q2⟩:=ih vs b h1;rw[hcs j vs (by omega) hv]at q1
   refine⟨y::l,by rw[List.length_cons,k1],fun x hx=>?_,_,_,?_,q1,k3⟩
   ·rcases List.mem_cons.1 hx with rfl | hx
    ·exact q2
    ·exact k2 x hx
   ·rw[Nat.succ_mul,Nat.add_comm (k*e.size),List.take_add,List.drop_drop]
    congr 3
    rw[Nat.succ_mul,Nat.add_assoc]
theorem jE(hro:∀b,b<w.heap.size→ro b):∀(fuel n:Nat) (e:Ty) (t:TypeId) (cs:List Value) (x:DataW H×List MemPlace),tyAt P n e t=true→DataW.trod enc P w base spare held fuel t cs=some x→∃y:e.T,Rd ro w.heap e y cs∧e.bG y
 | 0,n,e,t,cs,x,_,h=>by simp[DataW.trod]at h
 | fuel+1,0,e,t,cs,x,ht,h=>by simp[tyAt]at ht
 | fuel+1,n+1,e,t,cs,x,ht,h=>by
  have ht0:=ht;unfold tyAt at ht;split at ht
  ·rename_i k hu
   cases e with
   | int k' =>
    simp only[Bool.and_eq_true,decide_eq_true_eq]at ht;obtain⟨rfl,_⟩:=ht;obtain⟨n',h1,_,h3⟩:=DataW.trod_int hu h;exact⟨n',h1,h3⟩
   | bool=>cases ht
   | str=>cases ht
   | ifc=>cases ht
   | row _=>cases ht
   | prod _ _=>cases ht
  ·rename_i hu
   cases e with
   | bool =>
    obtain⟨b,h1,_⟩:=DataW.trod_bool hu h;exact⟨b,h1,trivial⟩
   | int _=>cases ht
   | str=>cases ht
   | ifc=>cases ht
   | row _=>cases ht
   | prod _ _=>cases ht
  ·rename_i hu
   cases e with
   | str =>
    obtain⟨s,h1,_⟩:=DataW.trod_string hu h;exact⟨s,h1,trivial⟩
   | ifc=>cases ht
   | int _=>cases ht
   | bool=>cases ht
   | row _=>cases ht
   | prod _ _=>cases ht
  ·rename_i q hu
   cases e with
   | row e' =>
    simp only[Bool.and_eq_true]at ht;rcases DataW.trod_slice hu h with ⟨rfl,_⟩ | ⟨a,len,cap,elems,rest,m,hm,rfl,_,hb,hl,hcap,hel,hi,_,_⟩
    ·exact⟨([]:List e'.T),⟨none,0,rfl,Nat.le_refl _,fun h=>absurd rfl h⟩,Nat.zero_le _,fun _ h=>(List.not_mem_nil h).elim⟩
    ·have hq:=iw ht.2
     have hpos:=e'.size_pos;have hi':∀i,i<len→∃x,(w.cells? base (a.add (i*P.cellsOf q)) (P.cellsOf q)).bind (DataW.trod enc P w base spare held m q)=some x:=fun i hlt=>by
      rw[hi i hlt,List.getElem?_eq_getElem (by omega)];exact⟨_,rfl⟩
     have he:m=fuel:=by omega
     subst he;rcases Nat.eq_zero_or_pos len with rfl | hp
     ·refine⟨([]:List e'.T),⟨some a,cap,rfl,Nat.zero_le _,fun h=>absurd rfl h⟩,Nat.zero_le _,fun _ h=>(List.not_mem_nil h).elim⟩
     ·obtain⟨x0,h0⟩:=hi' 0 hp
      cases hv:w.cells? base (a.add (0*P.cellsOf q)) (P.cellsOf q) with
      | none=>rw[hv]at h0;cases h0
      | some vs0 =>
       obtain⟨cs,t',fz,ha,hc,_,_⟩:=iL (by omega) hv
       have ha0:a.add (0*P.cellsOf q)=a:=by rw[Nat.zero_mul];rfl
       rw[ha0]at ha hc;have hcs:∀i vs,i<len→w.cells? base (a.add (i*P.cellsOf q)) (P.cellsOf q)=some vs→vs=(cs.toList.drop (a.off+i*e'.size)).take e'.size∧a.off+i*e'.size+e'.size≤cs.size:=fun i vs _ hv=>by
        obtain⟨cs',t2,fz',k1,k2,k3,k4⟩:=iL (by omega) hv
        have hb:(a.add (i*P.cellsOf q)).block=a.block:=by unfold Addr.add;split<;>rfl
        have ho:(a.add (i*P.cellsOf q)).off=a.off+i*P.cellsOf q:=by
         unfold Addr.add;split
         ·omega
         ·rfl
        rw[hb,hc]at k2;cases k2;rw[ho,hq]at k3 k4;exact⟨k3,k4⟩
       obtain⟨l,k1,k2,k3⟩:=Al (q:=q) (ro:=ro) (e:=e') (a:=a) (len:=len) (fun cs x hx=>jE hro m n e' q cs x ht.2 hx) (fun i vs hi hv=>(hcs i vs hi hv).1) hi' len 0 (by omega)
       rw[Nat.zero_mul,Nat.add_zero]at k3;refine⟨l,⟨some a,cap,by rw[k1],by omega,fun _=>?_⟩,by show List.length l≤maxLen;omega,k2⟩
       refine⟨a.block,a.off,cs,t',fz,_,(cs.toList.drop a.off).drop (len*e'.size),by rw[←ha],hro _ (fT hc),hc,(List.take_append_drop _ _).symm,k3⟩
   | int _=>cases ht
   | bool=>cases ht
   | str=>cases ht
   | ifc=>cases ht
   | prod _ _=>cases ht
  ·rename_i fs hu
   simp only[Bool.and_eq_true]at ht;obtain⟨xs,m,hm,_,hl,hxl,hf⟩:=DataW.trod_struct hu h;have he:m=fuel:=by omega
   subst he;have hc:=iw ht0;obtain⟨y,k1,k2⟩:=mP (ro:=ro) (fun e t cs x h1 h2=>jE hro m n e t cs x h1 h2) (fun m hm=>xL hm) n (by omega) e _ 0 cs ht.2 (by omega) (fun f hfm=>by
    obtain⟨g,hg,rfl⟩:=List.mem_map.1 hfm;obtain⟨i,hi,hgi⟩:=List.getElem_of_mem hg;have:=hf i g (by rw[←Array.getElem?_toList,List.getElem?_eq_getElem hi,hgi])
    simp only at this ⊢
    rw[this,List.getElem?_eq_getElem (by rw[hxl,←Array.length_toList];exact hi)]
    exact⟨_,rfl⟩)
   rw[List.drop_zero,List.take_of_length_le (by omega)]at k1
   exact⟨y,k1,k2⟩
  ·rename_i k q hu
   simp only[Bool.and_eq_true]at ht;obtain⟨xs,m,hm,_,hl,hxl,hf⟩:=DataW.trod_array hu h;have he:m=fuel:=by omega
   subst he;have hc:=iw ht0;obtain⟨y,k1,k2⟩:=mP (ro:=ro) (fun e t cs x h1 h2=>jE hro m n e t cs x h1 h2) (fun m hm=>xL hm) n (by omega) e _ 0 cs ht.2 (by omega) (fun f hfm=>by
    obtain⟨i,hg,rfl⟩:=List.mem_map.1 hfm;have hi:=List.mem_range.1 hg;have:=hf i hi
    simp only at this ⊢
    rw[this,List.getElem?_eq_getElem (by rw[hxl];exact hi)]
    exact⟨_,rfl⟩)
   rw[List.drop_zero,List.take_of_length_le (by omega)]at k1
   exact⟨y,k1,k2⟩
  ·cases ht
theorem arg_int{r:Reach}{b0:Nat}{t:TypeId}{k:IntKind}{v:Value}{d:DataW H}{ps:List MemPlace}(ht:P.underlying t=some (.int k))(hval:Value.okWide P w r b0 t v)(hd:DataW.Trod enc P w base spare held t v d ps) :
  ∃n:Int,(Lit.int k n).wf=true∧v=.int k n:=by
 obtain⟨n,h1,_,_,h2⟩:=open_int ht hval hd;exact⟨n,h2,h1⟩
theorem arg_row(hro:∀b,b<w.heap.size→ro b){r:Reach}{b0:Nat}{n:Nat}{e:Ty}{t q:TypeId}{v:Value}{d:DataW H}{ps:List MemPlace}(ht:P.underlying t=some (.slice q))(hty:tyAt P n (.row e) t=true)
  (hval:Value.okWide P w r b0 t v) (hd:DataW.Trod enc P w base spare held t v d ps):∃l:List e.T,Ty.bG (.row e) l∧VR ⟨fun _=>none,ro⟩ w.heap (.row e l) v:=by
 obtain⟨a,len,cap,rfl⟩:=okWide_slice ht hval;obtain⟨fuel,hf⟩:=hd;obtain⟨l,h1,h2⟩:=jE hro fuel n (.row e) t _ _ hty hf;exact⟨l,h2,h1⟩
theorem arg_len{r:Reach}{b0:Nat}{t q:TypeId}{e:Ty}{l:List e.T}{v:Value}{d:DataW H}{ps:List MemPlace}{ts:List TypeId}{ds:List (DataW H)}(hsz:(DataW.weightsEach P ts ds).all (·≤reachBytes)=true){j:Nat}(hj:ts[j]?=some t)(hdj:ds[j]?=some d)
  (ht:P.underlying t=some (.slice q)) (hv:VR ⟨fun _=>none,ro⟩ w.heap (.row e l) v) (hval:Value.okWide P w r b0 t v) (hd:DataW.Trod enc P w base spare held t v d ps):l.length*P.bytesOf q≤140737488351232:=by
 obtain⟨A,c,hs,_,_⟩:=hv;simp only[List.cons.injEq,and_true]at hs;subst hs;obtain⟨fuel,hf⟩:=hd;rcases DataW.trod_slice ht hf with ⟨h1,_⟩ | ⟨a,len,cap,elems,rest,m,hm,h1,h2,hb,hl,hcap,hel,_⟩
 ·simp[Value.cells]at h1
  rw[h1.2.1];simp
 ·simp[Value.cells]at h1
  simp only[Prod.mk.injEq]at h2;obtain⟨rfl,_⟩:=h2;have z:=sized_slice hsz hj hdj ht;simp only[List.length_map]at z;rw[h1.2.1];have:len*P.bytesOf q≤(elems.length+rest.length)*P.bytesOf q:=Nat.mul_le_mul_right _ (by omega)
  unfold reachBytes at z;omega
end
theorem dK.calls{P : Program}{f : Nat}{fn : Func}{c : Code}(hf : P.funcs[f]? = some fn)(hb : fn.body = some c)(hname : (fn.name == "runtime.NumGoroutine") = false){args : Array Value}{w : World}{R : Value → World → Prop}(h : dK P f args w R) :
    Calls P f args w fun e w2=>∃V,e=.returned V∧R V w2:=by
  rcases h with h | ⟨V,w',h,_⟩
  · exact h.2
  · have hbn:fn.body.isNone=false:=by rw[hb];rfl
    simp only[callFunc,Sem.run_bind,run_program,Result.andThen_ok,hf,hname,hbn,Bool.false_eq_true,if_false,Sem.run_pure]at h;cases h
theorem ArgsR.nil{g:Gh}{hp:HP}{vs:Array Value}:ArgsR g hp [] vs:=fun _ _ h=>(List.not_mem_nil h).elim
theorem ArgsR.cons{g:Gh}{hp:HP}{vs:Array Value}{as:List (Nat×AV)}{i:Nat}{a:AV}{v:Value}(hv:vs.getD i undef=v)(ha:bI g hp a v)(h:ArgsR g hp as vs):ArgsR g hp ((i,a)::as) vs:=fun j b hm=>by
 rcases List.mem_cons.1 hm with hm | hm
 ·cases hm;rw[hv];exact ha
 ·exact h j b hm
abbrev Cb(W:World):Gh:=⟨fun _=>none,fun b=>b<W.heap.size⟩
theorem bool_calls{P:Program}{F:Nat}{fn:Func}{c:Code}{sl:List (Nat×AF)}{au:List Nat}{f:Shape.X ⟨sl,[]⟩→Option (Bool×Unit)}(hS:Sound P F ⟨⟨sl,[]⟩,[⟨[(0,.c .bool)],[]⟩],au,f⟩)
    (hf : P.funcs[F]? = some fn) (hb : fn.body = some c) (hname : (fn.name == "runtime.NumGoroutine") = false) {x : Shape.X ⟨sl, []⟩} {al : List (Nat × AV)} (L : Laid ⟨sl, []⟩ x al []) (hx : f x = some (true, ())) {W : World} {args : Array Value} (hA : ArgsR (Cb W) W.heap al args) :
    Calls P F args W fun e W'=>e=.returned (.bool true)∧Below W.heap.size W W':=by
  have M:Mem (fun b=>W.heap.size≤b) (Cb W) (hget []) W.heap:=⟨fun n o h=>(nomatch h),fun n o P b h=>(nomatch h),fun n o P b h=>(nomatch h),fun n m o o' P Q b _ h=>(nomatch h),fun b h=>h⟩
  refine(dK.calls hf hb hname (hS.call x (true,()) hx _ (Cb W) W args al [] L M (fun b h=>h) (fun _ _=>rfl) hA)).mono fun e W' ⟨V,he,hq⟩=>?_
  obtain⟨as',os',L',g',hE,hM,hR⟩:=hq;obtain⟨rfl,rfl⟩:=L'.same (as':=[(0,.c (.bool true))]) (os':=[]) fun K=>rfl
  have hR:V=.bool true:=hR;subst hR;exact⟨he,hE.os,hE.tape,hE.output,hE.size,fun k hk=>hE.au k hk (.inl (by omega))⟩
end Go.Proofs.YthdgahpomhnidaaGreat.Mx
namespace Go.Proofs.YthdgahpomhnidaaGreat.Mx
open Go
def F4:Nat→String
  | 0 => "slices.go:355" | 1 => "slices.go:357" | 2 => "slices.go:358" | _ => "slices.go:362"
def H5:Nat→String
  | 0 => "bytes.go:1391" | 1 => "bytes.go:1392" | 2 => "bytes.go:1393" | _ => "bytes.go:1395"
def mq(p:Nat→String)(t u:Nat):Array Oper :=
 #[{dst:=some 3,op:=.move (.tmp 0),type:=t,pos:=p 1,after:=#[],guard:=none},
  {dst:=some 4,op:=.binOp .eql t (.tmp 3) (.const (.slice none 0 0)) t,type:=u,pos:=p 1,after:=#[{on:=0,ground:=.data}],guard:=none}]
def ly(p:Nat→String)(t:Nat):Code :=
 .cond (.tmp 4) (.seq (.region 2 #[{dst:=some 2,op:=.assign (.const (.slice none 0 0)),type:=t,pos:=p 2,after:=#[],guard:=none}] false) .ret) .skip
def pn(p:Nat→String)(t:Nat):Code :=
  .seq (.region 3
    #[{dst:=some 5,op:=.buildSlice t 0 #[],type:=t,pos:=p 3,after:=#[],guard:=none},
      {dst:=some 6,op:=.move (.tmp 0),type:=t,pos:=p 3,after:=#[],guard:=none},
      {dst:=some 7,op:=.call {callee:=.builtin .append,args:=#[.tmp 5,.tmp 6],argTypes:=#[t,t]},type:=t,pos:=p 3,
        after:=#[{on:=0,ground:=.data},{on:=1,ground:=.data}],guard:=none},
      {dst:=some 2,op:=.assign (.tmp 7),type:=t,pos:=p 3,
        after:=#[{on:=2,ground:=.data},{on:=2,ground:=.chain},{on:=0,ground:=.phase},{on:=1,ground:=.phase},{on:=2,ground:=.phase}],guard:=none}] false) .ret
def qb(p:Nat→String)(t:Nat):Code:=.region 0 #[{dst:=some 2,op:=.assign (.const (.slice none 0 0)),type:=t,pos:=p 0,after:=#[],guard:=none}] false
def AY(p:Nat→String)(t u:Nat):Code:=.seq (qb p t) (.seq (.seq (.region 1 (mq p t u) false) (ly p t)) (pn p t))
def ka(e:Ty):Shape:=⟨[(0,.c (.row e))],[]⟩
def cX(e:Ty):List Shape:=[⟨[(0,.c (.own 0))],[(0,.arr e)]⟩]
def da(e:Ty)(bytes:Nat)(l:List e.T):Option (List e.T×Unit):=bif decide (([]:List e.T).length+l.length≤aB bytes) then some ([]++l,()) else none
def nR(e:Ty)(l:List e.T)(b:Bool):St:=⟨[.v (.c (.row e l)),.dead,.v (.c .nils),.v (.c (.row e l)),.v (.c (.bool b)),.dead,.dead,.dead],[],48⟩
noncomputable def vw{A:Type}(p:Nat→String)(E:Env)(t:Nat)(K:Ex→St→Option A)(e:Ex)(s:St):Option A :=
 match e with
 | .norm=>exec E (pn p t) none s K
 | .exit i=>K (.exit i) s
 | .goto i=>K (.goto i) s
 | .ret=>K .ret s
variable {P:Program}
theorem x6{t e:Nat}(hd:P.underlying t=some (.slice e))(A:Option Addr)(n c:Nat)(d:Nat)(w:World):(Op.equalIn (d+1) t (.slice A n c) (.slice none 0 0)).run P w=.ok A.isNone w:=by
 cases A<;>simp[Op.equalIn,run_underlying hd]
theorem jb{p : Nat → String}{f : Nat}{fn : Func}{t u q : Nat}{e : Ty}{bytes : Nat}{i : TI}(E : Env)(hf : P.funcs[f]? = some fn)(hb : fn.body = some (AY p t u))(hname : (fn.name == "runtime.NumGoroutine") = false)(hord : P.follows .mixedOrders = true)(hnt : fn.ntmps = 8)
    (ok:dk P E) (hkeep:E.au=[]) (hi:tget E.ti t=some i) (hq:i.bD=.slice q)
    (h0:∀(l:List e.T) {A:Type} (K:Ex→St→Option A),exec E (qb p t) none ⟨[.v (.c (.row e l)),.dead,.dead,.dead,.dead,.dead,.dead,.dead],[],0⟩ K=K .norm ⟨[.v (.c (.row e l)),.dead,.v (.c .nils),.dead,.dead,.dead,.dead,.dead],[],16⟩)
    (hT:exec E (ly p t) none (nR e [] true) (vw p E t (fin E fn (cX e)))=some ([],()))
    (hF:∀l,exec E (ly p t) none (nR e l false) (vw p E t (fin E fn (cX e)))=da e bytes l) :
    Sound P f ⟨ka e,cX e,[],fun x=>da e bytes x.1⟩:=by
  refine⟨rfl,rfl,fun x r hr mt g w vs as os L M hmt hg hargs=>.inl ⟨?_,?_⟩⟩
  · have hbn:fn.body.isNone=false:=by rw[hb];rfl
    simp only[callFunc,Sem.run_bind,run_program,Result.andThen_ok,hf,hname,hbn,Bool.false_eq_true,if_false,Sem.run_pure]
  · obtain⟨rfl,rfl⟩:=L.same (as':=[(0,.c (.row e x.1))]) (os':=[]) fun K=>rfl
    obtain⟨d,hd,hu⟩:=ck (ok.1 t i hi);rw[hq]at hu;have hd':∃e',P.underlying t=some (.slice e'):=by cases d<;>first | (cases hu;done) | exact⟨_,hd⟩
    obtain⟨e',hd'⟩:=hd';have hk0:∀n,¬n∈E.au→(gK [] g).φ n=none:=fun n _=>by
      show (if n∈([]:List Nat) then g.φ n else none)=none
      rw[if_neg (List.not_mem_nil)]
    have e0:Ext mt (gK [] g) w g w:=⟨rfl,rfl,rfl,Nat.le_refl _,fun _ _ _=>rfl,fun _ h=>h,fun _ h=>.inl h,fun n Q h=>by
      have h:(if n∈([]:List Nat) then g.φ n else none)=some Q:=h
      rw[if_neg (List.not_mem_nil)]at h;cases h⟩
    have hA0:=hargs 0 _ (List.mem_singleton.2 rfl);obtain⟨Ad,cp,hV,hcp,hrow⟩:=(hA0:VR g w.heap (.row e x.1) _);simp only[List.cons.injEq,and_true]at hV;have hlast:∀(ex:Ex) (s':St),fin E fn (cX e) ex s'=some r→∀a w',Inv mt (gK [] g) w [] (vs++Array.replicate (fn.ntmps-vs.size) undef).size s' a w' →
        bodyPost P fn (fun ed w2=>∃V,ed=.returned V∧kV (cX e) r fun _ as' os'=>∃g',Ext mt (gK [] g) w g' w2∧Mem mt g' (hget os') w2.heap∧aV g' w2.heap (fG as') V) (ll ex) a w':=fun ex s' hk a w' hI=>by
      obtain⟨h2,h3,V,h4,h5⟩:=gJ ok.1 hk0 (outs:=cX e) rfl hk hI;rcases h2 with h2 | h2
      · rw[h2];exact⟨h3,V,h4,V,rfl,h5⟩
      · rw[h2];exact⟨h3,V,h4,V,rfl,h5⟩
    refine calls_of_wp hf hb ?_;have hI0:Inv mt (gK [] g) w [] (vs++Array.replicate (fn.ntmps-vs.size) undef).size ⟨[.v (.c (.row e x.1)),.dead,.dead,.dead,.dead,.dead,.dead,.dead],[],0⟩ {tmps:=vs++Array.replicate (fn.ntmps-vs.size) undef,defers:=[]} w:=by
      refine⟨g,e0,M,?_,?_,hg,rfl,rfl⟩
      · have:=iy (g:=g) (hp:=w.heap) (a:={tmps:=vs++Array.replicate (fn.ntmps-vs.size) undef,defers:=[]}) [(0,.c (.row e x.1))] (cf 8) (fun i y hi=>?_) (fun t=>by rw[dO];trivial)
        · exact this
        · have h2:=hargs i y hi
          have:(vs++Array.replicate (fn.ntmps-vs.size) undef).getD i undef=vs.getD i undef:=by
            simp only[Array.getD_eq_getD_getElem?,Array.getElem?_append];split
            · rfl
            · rename_i hlt
              rw[Array.getElem?_eq_none (xs:=vs) (Nat.not_lt.1 hlt),Array.getElem?_replicate];split<;>rfl
          rw[this];exact h2
      · show 8≤_
        simp[hnt];omega
    refine wp_seq ?_;obtain⟨s1,h1,hw1⟩:=kX (mt:=mt) (g0:=gK [] g) (w0:=w) (ds:=[]) (N:=(vs++Array.replicate (fn.ntmps-vs.size) undef).size) ok hord hmt (h0 x.1 fun _ s=>some s)
    cases h1;refine hw1 _ (fun a w' hI=>?_) _ _ hI0
    refine wp_seq (wp_seq (wp_region ?_));obtain⟨g1,A⟩:=hI;show wpOps P (mq p t u) _ [0,1] a w';rw[wpOps_cons];refine jN (base:=16) ok A.mem (grown hmt A.ext) A.fA A.len (fun n h _=>A.nx n h) (i:=0) rfl (v:=.v (.c (.row e x.1))) (fp:=⟨[],[]⟩) rfl fun V w2 g2 e2 hφ2 M2 sl2=>?_
    rw[wpOps_cons];have hV3:=sl2 3;obtain⟨A3,c3,hV3,hc3,hrow3⟩:=(hV3:VR g2 w2.heap (.row e x.1) _);simp only[List.cons.injEq,and_true]at hV3;have hdoes:aT P ⟨some 4,.binOp .eql t (.tmp 3) (.const (.slice none 0 0)) t,u,p 1,#[{on:=0,ground:=.data}],none⟩ (a.put (some 3) V) w2 (aY mt g2 w2 32 (hget []) (.v (.c (.bool A3.isNone)))):=by
      refine aT.cC rfl M2 ?_;have hx:(a.put (some 3) V).eval (.tmp 3)=.slice A3 x.1.length c3:=hV3;refine⟨.bool A3.isNone,?_,rfl,rfl⟩;rw[hx];have h2:(Op.equal t (.slice A3 x.1.length c3) (.slice none 0 0)).run P w2=.ok A3.isNone w2:=x6 hd' A3 _ _ 9999 w2;have h3:(eqGuard .eql t (.tmp 3) (.const (.slice none 0 0)) (.slice A3 x.1.length c3) (.slice none 0 0)).run P w2=.ok () w2:=gD _ _ _ _ _ _ (fun _=>by simp) (by simp) w2
      show (do eqGuard .eql t (.tmp 3) (.const (.slice none 0 0)) (.slice A3 x.1.length c3) (.slice none 0 0);binOp .eql t (.slice A3 x.1.length c3) (.slice none 0 0):Sem Value).run P w2=_
      rw[Sem.run_bind,h3];show (do pure (.bool (←Op.equal t (.slice A3 x.1.length c3) (.slice none 0 0))):Sem Value).run P w2=_
      rw[Sem.run_bind,h2];rfl
    show wpOp P (mq p t u) _ 1 _ _ _;unfold wpOp;show (if Region.wanted _ (yielded (mq p t u) (a.put (some 3) V).tmps)=true then _ else _)
    rw[if_pos (by rfl)]
    refine .inl (hdoes _ _ fun V4 w4 ⟨g4,e4,hφ4,M4,hv4⟩=>?_)
    have hl2:(putS [.v (.c (.row e x.1)),.dead,.v (.c .nils),.dead,.dead,.dead,.dead,.dead] (some 3) (.v (.c (.row e x.1)))).length≤(a.put (some 3) V).tmps.size:=by
      rw[bP];exact A.len
    have hI4:Inv mt (gK [] g) w [] (vs++Array.replicate (fn.ntmps-vs.size) undef).size (nR e x.1 A3.isNone) ((a.put (some 3) V).put (some 4) V4) w4:=by
      refine⟨g4,(A.ext.trans e2).trans e4,M4,(dD.put (sl2.aL (e4.aL M2.ro)) hl2 hv4 (some 4)),?_,fun n hn=>?_,?_,?_⟩
      · rw[bP];exact hl2
      · have hn:48≤n:=hn
        rw[hφ4 n (by simp only[keys];omega),hφ2 n (by simp only[keys];omega)]
        exact A.nx n (by show 16≤n;omega)
      · rw[cS,cS];exact A.gz.1
      · rw[bP,bP];exact A.gz.2
    have hend:exec E (ly p t) none (nR e x.1 A3.isNone) (vw p E t (fin E fn (cX e)))=some r:=by
      have hr:da e bytes x.1=some r:=hr;cases hA3:A3 with
      | some _=>exact(hF x.1).trans hr
      | none =>
        have hnil:x.1=[]:=by
          rcases hx:x.1 with _ | ⟨y,ys⟩
          · rfl
          · obtain⟨b,o,cs,t',fz,us,rest,hA,_⟩:=hrow3 (by rw[hx];simp)
            rw[hA3]at hA;cases hA
        rw[hnil]at hr ⊢;have:da e bytes []=some ([],()):=by
          unfold da;rw[decide_eq_true (by simp)]
          rfl
        rw[this]at hr;cases hr;exact hT
    refine(kE (mt:=mt) (g0:=gK [] g) (w0:=w) (ds:=[]) (N:=(vs++Array.replicate (fn.ntmps-vs.size) undef).size) ok hord hmt hk0 (ly p t)).1 _ _ r hend _ (fun e' s' hk a w' hI=>?_) _ _ hI4
    cases e' with
    | norm=>exact(kE (mt:=mt) (g0:=gK [] g) (w0:=w) (ds:=[]) (N:=(vs++Array.replicate (fn.ntmps-vs.size) undef).size) ok hord hmt hk0 (pn p t)).1 _ _ r hk _ hlast a w' hI
    | exit i=>exact hlast (.exit i) s' hk a w' hI
    | goto i=>exact hlast (.goto i) s' hk a w' hI
    | ret=>exact hlast .ret s' hk a w' hI
end Go.Proofs.YthdgahpomhnidaaGreat.Mx
namespace Go.Proofs.YthdgahpomhnidaaGreat.Mx
open Go
def eqKind(P:Program)(f:TypeId):SK→Bool
 | .int k=>match P.underlying f with
  | some (.int k')=>decide (k'=k)
  | _=>false
 | .bool=>match P.underlying f with
  | some .bool=>true
  | _=>false
def eqFs(P:Program):List SK→List Field→Nat→Bool
  | [],[],_=>true
  | k :: ks, f :: fs, off => decide (f.name ≠ "_") && Nat.beq f.offset off && P.plainKey f.type && eqKind P f.type k && eqFs P ks fs (off + 1)
  | _,_,_=>false
theorem qu{P:Program}{w:World}{d:Nat}{t:TypeId}{k:SK}{u v:Value}(h:eqKind P t k=true)(hu:SK.Of k u)(hv:SK.Of k v):∃b,(Op.equalIn (d+1) t u v).run P w=.ok b w∧∀us vs,eqV (u::us) (v::vs)=(b&&eqV us vs):=by
 cases k with
 | int k =>
  obtain⟨m,rfl⟩:=hu;obtain⟨n,rfl⟩:=hv;simp only[eqKind]at h;split at h
  ·rename_i k' hk
   exact⟨_,run_equalIn_int w d t k k' m n hk,fun us vs=>rfl⟩
  ·cases h
 | bool =>
  obtain⟨m,rfl⟩:=hu;obtain⟨n,rfl⟩:=hv;simp only[eqKind]at h;split at h
  ·rename_i hk
   exact⟨_,run_equalIn_bool' w d t m n hk,fun us vs=>rfl⟩
  ·cases h
theorem ng{P:Program}{w:World}{d:Nat}{xs ys:Array Value}:∀(ks:List SK) (fs:List Field) (off:Nat) (us vs:List Value),eqFs P ks fs off=true→xs.toList.drop off=us→ys.toList.drop off=vs→All2 SK.Of ks us→All2 SK.Of ks vs →
  (Op.eqFields (d+1) xs ys fs).run P w=.ok (eqV us vs) w
 | [],[],off,us,vs,_,_,_,hu,hv=>by
  cases us with
  | nil =>
   cases vs with
   | nil=>simp[Op.eqFields,eqV]
   | cons _ _=>exact hv.elim
  | cons _ _=>exact hu.elim
 | k::ks,f::fs,off,us,vs,h,h1,h2,hu,hv=>by
  cases us with
  | nil=>exact hu.elim
  | cons u us =>
  cases vs with
  | nil=>exact hv.elim
  | cons v vs =>
  obtain⟨hu1,hu2⟩:=hu;obtain⟨hv1,hv2⟩:=hv;simp only[eqFs,Bool.and_eq_true,decide_eq_true_eq,Nat.beq_eq]at h;obtain⟨⟨⟨⟨c1,c2⟩,c3⟩,c4⟩,c5⟩:=h;have g1:xs[f.offset]?=some u:=by
   rw[c2,←Array.getElem?_toList];have:=congrArg (fun l=>l[0]?) h1
   simpa [List.getElem?_drop] using this
  have g2:ys[f.offset]?=some v:=by
   rw[c2,←Array.getElem?_toList];have:=congrArg (fun l=>l[0]?) h2
   simpa [List.getElem?_drop] using this
  obtain⟨b,r1,r2⟩:=qu (w:=w) (d:=d) c4 hu1 hv1;have ih:=ng (w:=w) (d:=d) (xs:=xs) (ys:=ys) ks fs (off+1) us vs c5 (by rw[←List.drop_drop,h1];rfl) (by rw[←List.drop_drop,h2];rfl) hu2 hv2
  simp only[Op.eqFields,c1,ne_eq,not_false_eq_true,if_true,Sem.run_bind,run_part_plain w c3 g1,run_part_plain w c3 g2,Result.andThen_ok,r1,r2];cases b with
  | false=>simp
  | true=>simpa using ih
 | [],_::_,_,_,_,h,_,_,_,_=>by simp[eqFs]at h
 | _::_,[],_,_,_,h,_,_,_,_=>by simp[eqFs]at h
theorem nY{P:Program}{t:Nat}{ks:List SK}(hu:P.underlying t=some (.struct (P.fieldsOf t)))(hp:P.stoodInHeld t=false)(hg:P.eqGuardType P.depth t=false)(hm:eqFs P ks (P.fieldsOf t).toList 0=true):ic P t ks :=
 ⟨hg,fun w xs ys hx hy=>by
  rw[run_equalIn_agg w 9999 t _ _ hu hp];exact ng (d:=9998) ks _ 0 xs ys hm rfl rfl hx hy⟩
theorem oE{P:Program}{w:World}{d:Nat}{e:TypeId}{k:SK}{xs ys:Array Value}(hp:P.plainKey e=true)(hk:eqKind P e k=true):∀(m off:Nat) (us vs:List Value),xs.toList.drop off=us→ys.toList.drop off=vs→All2 SK.Of (List.replicate m k) us→All2 SK.Of (List.replicate m k) vs →
  (Op.eqItems (d+1) e 1 xs ys (List.range' off m)).run P w=.ok (eqV us vs) w
 | 0,off,us,vs,_,_,hu,hv=>by
  cases us with
  | nil =>
   cases vs with
   | nil=>simp[Op.eqItems,eqV]
   | cons _ _=>exact hv.elim
  | cons _ _=>exact hu.elim
 | m+1,off,us,vs,h1,h2,hu,hv=>by
  rw[List.replicate_succ]at hu hv;cases us with
  | nil=>exact hu.elim
  | cons u us =>
  cases vs with
  | nil=>exact hv.elim
  | cons v vs =>
  obtain⟨hu1,hu2⟩:=hu;obtain⟨hv1,hv2⟩:=hv;have g1:xs[off*1]?=some u:=by
   rw[Nat.mul_one,←Array.getElem?_toList];have:=congrArg (fun l=>l[0]?) h1
   simpa [List.getElem?_drop] using this
  have g2:ys[off*1]?=some v:=by
   rw[Nat.mul_one,←Array.getElem?_toList];have:=congrArg (fun l=>l[0]?) h2
   simpa [List.getElem?_drop] using this
  obtain⟨b,r1,r2⟩:=qu (w:=w) (d:=d) hk hu1 hv1;have ih:=oE (w:=w) (d:=d) (xs:=xs) (ys:=ys) hp hk m (off+1) us vs (by rw[←List.drop_drop,h1];rfl) (by rw[←List.drop_drop,h2];rfl) hu2 hv2
  rw[List.range'_succ];simp only[Op.eqItems,Sem.run_bind,run_part_plain w hp g1,run_part_plain w hp g2,Result.andThen_ok,r1,r2];cases b with
  | false=>simp
  | true=>simpa using ih
theorem Bv{P:Program}{t n e:Nat}{k:SK}(hu:P.underlying t=some (.array n e))(hi:(P.info? e).isSome=true)(hc:P.cellsOf e=1)(hp:P.plainKey e=true)(hg:P.eqGuardType P.depth t=false)(hk:eqKind P e k=true):ic P t (List.replicate n k) :=
 ⟨hg,fun w xs ys hx hy=>by
  obtain⟨i,hi⟩:=Option.isSome_iff_exists.1 hi;rw[run_equalIn_array w 9999 xs.toArray ys.toArray hu hi,hc,List.range_eq_range'];exact oE (d:=9998) hp hk n 0 xs ys rfl rfl hx hy⟩
end Go.Proofs.YthdgahpomhnidaaGreat.Mx

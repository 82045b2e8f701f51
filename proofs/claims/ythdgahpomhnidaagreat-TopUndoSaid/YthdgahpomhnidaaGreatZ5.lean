import Derived.Laws.MakeOwn
import Derived.Great.BuildSlice
import Derived.Test.YthdgahpomhnidaaGreatZ4
set_option linter.unusedSimpArgs false
set_option linter.unusedVariables false
set_option autoImplicit false
namespace Go.Proofs.YthdgahpomhnidaaGreat.Mx
open Go
variable {P:Program}
section
variable {mt:Nat→Prop} {g:Gh} {H H':HF} {w:World} {base:Nat} {fp fp':FP} {v:SV}
def jL(P:Program)(mt:Nat→Prop)(g:Gh)(H':HF)(w:World)(base:Nat)(v:SV)(s:Sem Value):Prop:=∃V w',s.run P w=.ok V w'∧aY mt g w base H' v V w'
theorem bU.makes{s:Sem Value}(M:Mem mt g H w.heap)(h:bU P g H H' w v s):jL P mt g H' w base v s:=by
 obtain⟨V,h1,h2,rfl⟩:=h;exact⟨V,w,h1,aY.same M h2⟩
theorem fP:0<keys:=by decide
theorem uO{cs:List CV}{V:Value}{t:Nat}(M:Mem mt g H w.heap)(hm:∀b,w.heap.size≤b→mt b)(hf:∀n,base≤n→n<base+keys→g.φ n=none)(hv:All2 (VR g w.heap) cs V.cells.toList)
  (h:(yn cs).eval base H fp=some (v,H',fp')):jL P mt g H' w base v (do pure (.pointer (some (←newVar t V)))):=by
 simp only[yn,MA.eval]at h;cases ho:H (base+0) with
 | some _=>rw[ho]at h;cases h
 | none =>
  rw[ho]at h;simp only[fP,if_true,ret,MA.eval,Option.some.injEq,Prod.mk.injEq]at h;obtain⟨rfl,rfl,_⟩:=h
  let Q:Pl:=⟨some w.heap.size,none,0,0,0⟩
  refine⟨.pointer (some ⟨w.heap.size,0,none⟩),{w with heap:=w.heap.push (.cells V.cells t)},by simp only[newVar,newRow,Sem.run_bind,run_newObj,Result.andThen_ok,Sem.run_pure],?_⟩
  have hfr:=hf (base+0) (by omega) (by have:=fP;omega)
  have st:cA g w.heap (dJ g (base+0) Q) (w.heap.push (.cells V.cells t)):=⟨fun _ h=>h,fun b hb=>dW _ _ _ (M.ro b hb),cy hfr⟩
  refine aY.new (Q:=Q) M hm rfl rfl rfl rfl hfr fP rfl rfl ⟨_,V.cells,t,rfl,fN _ _,All2.mono (VR.aL st) _ _ hv⟩ ⟨Q,_,cj g _ Q,rfl,rfl⟩
theorem u9:∀(vs:List Value) (k off:Nat) (cells:Array Value),off+k+vs.length≤cells.size →
  ((vs.zipIdx k).foldl (fun(cs:Array Value) (x:Value×Nat)=>cs.setIfInBounds (off+x.2) x.1) cells).toList=cells.toList.take (off+k)++vs++cells.toList.drop (off+k+vs.length)
 | [],k,off,cells,h=>by simp
 | v::vs,k,off,cells,h=>by
  simp only[List.length_cons]at h;rw[List.zipIdx_cons,List.foldl_cons,u9 vs (k+1) off _ (by simp;omega)]
  simp only[Array.toList_setIfInBounds];refine List.ext_getElem? fun q=>?_
  have hs:cells.size=cells.toList.length:=by simp
  rw[show off+(k+1)=off+k+1 by omega]
  have e1:=gv (cells.toList.set (off+k) v) (off+k+1) vs q (by rw[List.length_set];omega)
  have e2:=gv cells.toList (off+k) (v::vs) q (by simp only[List.length_cons];omega)
  rw[e1,e2];simp only[List.length_cons]
  by_cases h1:off+k+1≤q∧q<off+k+1+vs.length
  ·rw[if_pos h1,if_pos (by omega),show q-(off+k)=(q-(off+k+1))+1 by omega];rfl
  ·rw[if_neg h1,List.getElem?_set]
   by_cases h2:off+k=q
   ·rw[if_pos h2,if_pos (by omega),if_pos (by omega),←h2,Nat.sub_self];rfl
   ·rw[if_neg h2,if_neg (by omega)]
theorem xR(V:Value)(off:Nat)(cells:Array Value)(h:off+V.cells.size≤cells.size) :
  (V.cells.zipIdx.foldl (fun cs (c,j)=>cs.setIfInBounds (off+j) c) cells).toList=cells.toList.take off++V.cells.toList++cells.toList.drop (off+V.cells.toList.length):=by
 rw[←Array.foldl_toList,Array.toList_zipIdx];exact u9 V.cells.toList 0 off cells (by simpa using h)
def tj(g:Gh)(hp:HP)(x:Nat×SV)(y:Nat×Value):Prop:=x.1=y.1∧aV g hp x.2 y.2
theorem kl{place:Nat→Option (Nat×Nat)}{placeM:Nat→Option (Nat×Nat)}(hpl:∀i x,placeM i=some x→place i=some x):∀(ps:List (Nat×SV)) (vs:List (Nat×Value)) (cs cs':List CV) (cells:Array Value),
  All2 (tj g w.heap) ps vs→All2 (VR g w.heap) cs cells.toList→fillCs placeM cs ps=some cs'→∃cells',Instr.fill place cells vs=some cells'∧All2 (VR g w.heap) cs' cells'.toList
 | [],[],cs,cs',cells,_,hc,h=>by simp only[fillCs,Option.some.injEq]at h;subst h;exact⟨cells,rfl,hc⟩
 | (i,.v a)::ps,(i',V)::vs,cs,cs',cells,⟨⟨hi,hV⟩,hps⟩,hc,h=>by
  simp only at hi hV
  subst hi;simp only[fillCs]at h;cases h1:placeM i with
  | none=>rw[h1]at h;cases h
  | some p =>
   obtain⟨off,size⟩:=p;rw[h1]at h
   simp only at h
   cases hf:fits (dG a) size with
   | false=>rw[hf]at h;cases h
   | true =>
    rw[hf]at h;obtain⟨f1,f2⟩:=ku hf
    simp only at h
    split at h
    ·rename_i cs2 hc2
     have hv2:=lR (A:=a) hV f2;have hlen:=All2.length hv2;obtain⟨h3,h4⟩:=qp hc hv2 hc2;have hsz:V.cells.size=size:=by rw[←f1,hlen];simp
     have hle:off+V.cells.size≤cells.size:=by simpa using h4
     obtain⟨cells',h5,h6⟩:=kl hpl ps vs cs2 cs' (V.cells.zipIdx.foldl (fun cs (c,j)=>cs.setIfInBounds (off+j) c) cells) hps (by rw[xR V off cells hle];exact h3) h
     refine⟨cells',?_,h6⟩;simp only[Instr.fill,hpl i _ h1];rw[if_neg (by simp only[hsz,ne_eq,not_true_eq_false,Bool.or_eq_true,decide_eq_true_eq,false_or];omega)]
     exact h5
    ·cases h
 | (_,.tup _)::_,_,_,_,_,_,_,h=>by simp[fillCs]at h
 | [],_::_,_,_,_,h,_,_=>h.elim
 | _::_,[],_,_,_,h,_,_=>h.elim
theorem vN(fs:Array Field)(h:∀f∈fs.toList,(P.info? f.type).isSome=true):(fs.mapM fun f=>do pure (f.offset,←sizeOf f.type):Sem (Array (Nat×Nat))).run P w=.ok (fs.map fun f=>(f.offset,P.cellsOf f.type)) w:=by
 have key:∀l:List Field,(∀f∈l,(P.info? f.type).isSome=true)→(l.mapM fun f=>do pure (f.offset,←sizeOf f.type):Sem (List (Nat×Nat))).run P w=.ok (l.map fun f=>(f.offset,P.cellsOf f.type)) w:=by
  intro l
  induction l with
  | nil=>intro _;rfl
  | cons f l ih =>
   intro hl;obtain⟨i,hi⟩:=Option.isSome_iff_exists.1 (hl f (by simp))
   simp only[List.mapM_cons,Sem.run_bind,run_sizeOf w hi,Result.andThen_ok,Sem.run_pure,ih fun f' hf'=>hl f' (by simp[hf']),List.map_cons]
 rw[←Array.toArray_toList (xs:=fs),List.mapM_toArray,Sem.run_map,key fs.toList h];simp only[Result.andThen_ok,Array.toArray_toList]
 congr 1
 apply Array.ext';simp
theorem yj{bQ:List (Nat×TI)}{t:Nat}{i:TI}{ps:List (Nat×SV)}{vs:List (Nat×Value)}{cs:List CV}(T:bL P bQ)(ht:aC P t i)(hagg:i.agg=true)(hps:All2 (tj g w.heap) ps vs)(hc:fillCs (placeOf bQ i) i.zero ps=some cs) :
  ∃V,(Instr.build t vs.toArray).run P w=.ok V w∧aV g w.heap (.v (.agg cs)) V:=by
 obtain⟨z,hz1,hz2⟩:=pI ht w;have hz:All2 (VR g w.heap) i.zero z.cells.toList:=by rw[hz1];exact nK g w.heap i.zero ht.F1
 cases hu:i.bD with
 | struct fs =>
  obtain⟨a,ha,hfs⟩:=su ht hu;have hfl:=ht.Fw;rw[hu]at hfl;have hinfo:∀f∈a.toList,(P.info? f.type).isSome=true:=fun f hf=>by
   simp only[List.all_eq_true]at hfl;exact hfl (f.offset,f.type) (by rw[←hfs];exact List.mem_map.2 ⟨f,hf,rfl⟩)
  obtain⟨cells,h1,h2⟩:=kl (place:=((a.map fun f=>(f.offset,P.cellsOf f.type))[·]?)) (placeM:=placeOf bQ i) (fun k x hx=>by
   unfold placeOf at hx;rw[hu]at hx
   simp only at hx
   cases hn:nthF fs k with
   | none=>rw[hn]at hx;cases hx
   | some p =>
    obtain⟨off,ft⟩:=p;rw[hn]at hx
    simp only at hx
    cases hq:tget bQ ft with
    | none=>rw[hq]at hx;cases hx
    | some q =>
     rw[hq]at hx;simp only[Option.some.injEq]at hx;subst hx;obtain⟨a',y,e1,e2,e3,e4⟩:=pd ht hu hn;rw[ha]at e1;cases e1;have hcell:P.cellsOf ft=q.size:=by
      obtain⟨x,d,z',k1,k2,_⟩:=(T ft q hq).get;simp only[Program.cellsOf,k1,Option.map_some,Option.getD_some,k2]
     simp only[Array.getElem?_map,e2,Option.map_some,e3,e4,hcell]) ps vs i.zero cs z.cells hps hz hc
  refine⟨.agg cells,?_,cells.toList,by simp,h2⟩
  simp only[Instr.build,Sem.run_bind,hz2,Result.andThen_ok,run_underlying ha,vN a hinfo,h1,Sem.run_pure]
 | arr n e =>
  obtain⟨d,hd,hu2⟩:=ck ht;rw[hu]at hu2;cases d<;>first | (cases hu2;done) | skip
  rename_i n' e';obtain⟨rfl,rfl⟩:n=n'∧e=e':=by (injection hu2 with a b;exact⟨a.symm,b.symm⟩)
  have hfl:=ht.Fw;rw[hu]at hfl;obtain⟨ie,hie⟩:=Option.isSome_iff_exists.1 hfl;obtain⟨cells,h1,h2⟩:=kl (place:=fun i=>some (i*P.cellsOf e,P.cellsOf e)) (placeM:=placeOf bQ i) (fun k x hx=>by
   unfold placeOf at hx;rw[hu]at hx
   simp only at hx
   cases hq:tget bQ e with
   | none=>rw[hq]at hx;cases hx
   | some q =>
    rw[hq]at hx;simp only[Option.some.injEq]at hx;subst hx;have hcell:P.cellsOf e=q.size:=by
     obtain⟨x,d,z',k1,k2,_⟩:=(T e q hq).get;simp only[Program.cellsOf,k1,Option.map_some,Option.getD_some,k2]
    rw[hcell]) ps vs i.zero cs z.cells hps hz hc
  refine⟨.agg cells,?_,cells.toList,by simp,h2⟩
  simp only[Instr.build,Sem.run_bind,hz2,Result.andThen_ok,run_underlying hd,run_sizeOf w hie,h1,Sem.run_pure]
 | _=>simp[TI.agg,hu]at hagg
theorem wB{k:Nat}(cs:List CV)(hk:cs.length=k):∀(n q:Nat),q<n*k→(repCs cs n)[q]?=cs[q%k]?
 | 0,q,h=>by simp at h
 | n+1,q,h=>by
  simp only[repCs]
  by_cases hq:q<k
  ·rw[List.getElem?_append_left (by omega),Nat.mod_eq_of_lt hq]
  ·have h':q-k<n*k:=by rw[Nat.add_mul,Nat.one_mul]at h;omega
   rw[List.getElem?_append_right (by omega),hk,wB cs hk n (q-k) h']
   congr 1
   exact(Nat.mod_eq_sub_mod (by omega)).symm
theorem rJ(cs:List CV):∀n,(repCs cs n).length=n*cs.length
 | 0=>by simp[repCs]
 | n+1=>by simp only[repCs,List.length_append,rJ cs n,Nat.add_mul,Nat.one_mul];omega
theorem ve(z:Array Value)(n q:Nat)(h:q<n*z.size)(hz:0<z.size):(madeCells z (n*z.size)).toList[q]?=z.toList[q%z.size]?:=by
 have hm:q%z.size<z.size:=Nat.mod_lt _ hz;simp only[madeCells,Array.toList_map,Array.toList_range,List.getElem?_map,List.getElem?_range h,Option.map_some];rw[Array.getElem?_toList,Array.getElem?_eq_getElem hm];simp[hm]
theorem DB{hp:HP}{cs:List CV}{z:Array Value}(h:All2 (VR g hp) cs z.toList)(n:Nat)(hz:0<z.size):All2 (VR g hp) (repCs cs n) (madeCells z (n*z.size)).toList:=by
 have hl:=All2.length h;have hl':cs.length=z.size:=by simpa using hl
 refine All2.mR _ _ (fun q c hc=>?_) (by rw[rJ,hl'];simp[size_madeCells])
 have hq:q<n*z.size:=by have:=(List.getElem?_eq_some_iff.1 hc).1;rw[rJ,hl']at this;exact this
 rw[wB cs hl' n q hq]at hc;obtain⟨y,h1,h2⟩:=All2.get _ h hc;exact⟨y,by rw[ve z n q hq hz];exact h1,h2⟩
theorem vm{ro:Nat→Prop}{hp:HP}{e:Ty}{x:e.T}{z:Array Value}(h:Rd ro hp e x z.toList)(n c:Nat)(hnc:n≤c):∃us rest,(madeCells z (c*z.size)).toList=us++rest∧RdL (Rd ro hp e) (List.replicate n x) us:=by
 have hz:z.size=e.size:=by have:=Rd.length e _ _ h;simpa using this
 have hpos:0<z.size:=by rw[hz];exact e.size_pos
 have key:∀n,(madeCells z (n*z.size)).toList=(List.replicate n z.toList).flatten:=fun n=>by
  refine List.ext_getElem? fun q=>?_
  by_cases hq:q<n*z.size
  ·rw[ve z n q hq hpos]
   clear hnc
   induction n generalizing q with
   | zero=>simp at hq
   | succ n ih =>
    rw[List.replicate_succ,List.flatten_cons]
    by_cases hq2:q<z.size
    ·rw[List.getElem?_append_left (by simpa using hq2),Nat.mod_eq_of_lt hq2]
    ·have h':q-z.size<n*z.size:=by rw[Nat.add_mul,Nat.one_mul]at hq;omega
     rw[List.getElem?_append_right (by simp;omega),Array.length_toList,←ih _ h',Nat.mod_eq_sub_mod (by omega)]
  ·rw[List.getElem?_eq_none (by simp[size_madeCells];omega),List.getElem?_eq_none (by simp;omega)]
 refine⟨(List.replicate n z.toList).flatten,(List.replicate (c-n) z.toList).flatten,?_,RdL.replicate h n⟩;rw[key,←List.flatten_append,List.replicate_append_replicate,show n+(c-n)=c by omega]
theorem aY.tG{w':World}{g':Gh}{V:Value}{H2:HF}(a:Ext mt g w g' w)(b:∀n,g'.φ n=g.φ n)(c:aY mt g' w base H2 v V w'):aY mt g w base H2 v V w':=by
 obtain⟨g2,h1,h2,h3,h4⟩:=c;exact⟨g2,a.trans h1,fun n hn=>(h2 n hn).trans (b n),h3,h4⟩
theorem aY.sH{w':World}{g':Gh}{V:Value}{H2:HF}(a:Ext mt g w g' w)(b:∀n,g'.φ n=g.φ n)(c:aY mt g' w base H2 v V w'):aY mt g w base H2 v V w':=aY.tG a b c
theorem kS:∀(e:Ty) (cs:List CV) (vs:List Value) (g:Gh) (H:HF) (fp:FP) (r:List CV×List CV),Mem mt g H w.heap→All2 (VR g w.heap) cs vs→(rowsIn e cs).eval base H fp=some (r,H',fp') →
  ∃g',Ext mt g w g' w∧(∀n,g'.φ n=g.φ n)∧Mem mt g' H' w.heap∧∃us us',vs=us++us'∧All2 (VR g' w.heap) r.1 us∧All2 (VR g' w.heap) r.2 us':=by
 intro e
 induction e generalizing H' fp' with
 | prod a b iha ihb =>
  intro cs vs g H fp r M hv h;simp only[rowsIn,MA.eval_bind]at h;cases h1:(rowsIn a cs).eval base H fp with
  | none=>rw[h1]at h;cases h
  | some x =>
   obtain⟨x,H1,fp1⟩:=x;rw[h1]at h
   simp only at h
   cases h2:(rowsIn b x.2).eval base H1 fp1 with
   | none=>rw[h2]at h;cases h
   | some y =>
    obtain⟨y,H2,fp2⟩:=y;rw[h2]at h;simp only[MA.eval,Option.some.injEq,Prod.mk.injEq]at h;obtain⟨rfl,rfl,rfl⟩:=h;obtain⟨g1,e1,p1,M1,us,us',k1,k2,k3⟩:=iha cs vs g H fp x M hv h1;obtain⟨g2,e2,p2,M2,ws,ws',l1,l2,l3⟩:=ihb x.2 us' g1 H1 fp1 y M1 k3 h2;exact⟨g2,e1.trans e2,fun n=>(p2 n).trans (p1 n),M2,us++ws,ws',by rw[k1,l1,List.append_assoc],All2.append (All2.mono (VR.aL (e2.aL M1.ro)) _ _ k2) l2,l3⟩
 | row e _ =>
  intro cs vs g H fp r M hv h;have plain:∀c cs',cs=c::cs'→r=([c],cs')→H'=H→∃g',Ext mt g w g' w∧(∀n,g'.φ n=g.φ n)∧Mem mt g' H' w.heap∧∃us us',vs=us++us'∧All2 (VR g' w.heap) r.1 us∧All2 (VR g' w.heap) r.2 us':=fun c cs' hc hr hH=>by
   subst hc hr hH
   match vs,hv with
   | u::vs,⟨hu,hv⟩=>exact⟨g,Ext.refl _ _ _,fun _=>rfl,M,[u],vs,rfl,⟨hu,trivial⟩,hv⟩
  have taken:∀n (e':Ty) (l:List e'.T) (u:Value) (Q:Pl),VR g w.heap (.own n) u→g.φ n=some Q→cr g w.heap Q e' l→(∀b,Q.bJ=some b→g.ro b)→VR g w.heap (.row e' l) u:=fun n e' l u Q hu hQ hA hro=>by
   obtain⟨Q',hQ',rfl⟩:=hu;rw[hQ]at hQ';cases hQ';refine⟨Q.base,Q.cap,by rw[hA.1],by rw[←hA.1];exact hA.2.2.1,fun hl=>?_⟩
   obtain⟨b,cs,t,fz,us,rest,h1,h2,h3,h4⟩:=lG hA hl;refine⟨b,0,cs,t,fz,us,rest,h1,?_,h2,by rw[List.drop_zero,h3],h4⟩
   obtain⟨a1,a2,a3,a4⟩:=hA;cases hb:Q.bJ with
   | none=>rw[hb]at a4;rw[a4.2.2]at h1;cases h1
   | some b' =>
    rw[hb]at a4;rw[a4.1]at h1;cases h1;exact hro b hb
  cases cs with
  | nil=>simp[rowsIn,MA.eval]at h
  | cons c cs' =>
   cases c with
   | own n =>
    simp only[rowsIn]at h;obtain⟨o,ho,h⟩:=dw h;obtain⟨Q,hQ,hO⟩:=M.obj n o ho
    match vs,hv with
    | u::vs,⟨hu,hv⟩ =>
     split at h
     ·rename_i e' l
      simp only[MA.eval,ho,Option.some.injEq,Prod.mk.injEq]at h;obtain⟨rfl,rfl,rfl⟩:=h;have M':=M.freeze ho hQ;have ex:Ext mt g w ⟨g.φ,fun b=>g.ro b∨Q.bJ=some b⟩ w:=⟨rfl,rfl,rfl,Nat.le_refl _,fun _ _ _=>rfl,fun _ h=>.inl h,fun b hb=>hb.imp id fun he=>(M.own n _ Q b ho rfl hQ he).1,fun _ _ h=>h⟩
      refine⟨_,ex,fun _=>rfl,M',[u],vs,rfl,⟨?_,trivial⟩,All2.mono (VR.aL (ex.aL M.ro)) _ _ hv⟩
      obtain⟨Q',hQ',hO'⟩:=M'.obj n _ (aS _ _ _);have:Q'=Q:=by rw[show (⟨g.φ,fun b=>g.ro b∨Q.bJ=some b⟩:Gh).φ n=g.φ n from rfl,hQ]at hQ';exact(Option.some.inj hQ').symm
      subst this;have hu':VR ⟨g.φ,fun b=>g.ro b∨Q'.bJ=some b⟩ w.heap (.own n) u:=hu
      obtain⟨Q2,hQ2,rfl⟩:=hu';have:Q2=Q':=by rw[show (⟨g.φ,fun b=>g.ro b∨Q'.bJ=some b⟩:Gh).φ n=g.φ n from rfl,hQ]at hQ2;exact(Option.some.inj hQ2).symm
      subst this;have hA:cr _ w.heap Q2 e' l:=hO';refine⟨Q2.base,Q2.cap,by rw[hA.1],by rw[←hA.1];exact hA.2.2.1,fun hl=>?_⟩
      obtain⟨b,cs,t,fz,us,rest,h1,h2,h3,h4⟩:=lG hA hl;refine⟨b,0,cs,t,fz,us,rest,h1,.inr ?_,h2,by rw[List.drop_zero,h3],h4⟩
      obtain⟨a1,a2,a3,a4⟩:=hA;cases hb:Q2.bJ with
      | none=>rw[hb]at a4;rw[a4.2.2]at h1;cases h1
      | some b'=>rw[hb]at a4;rw[a4.1]at h1;cases h1;rfl
     ·rename_i e' l
      simp only[MA.eval,Option.some.injEq,Prod.mk.injEq]at h;obtain⟨rfl,rfl,rfl⟩:=h;exact⟨g,Ext.refl _ _ _,fun _=>rfl,M,[u],vs,rfl,⟨taken n e' l u Q hu hQ hO fun b hb=>M.bF n _ Q b ho rfl hQ hb,trivial⟩,hv⟩
     ·exact(aj h).elim
   | _=>simp only[rowsIn,MA.eval,Option.some.injEq,Prod.mk.injEq]at h;exact plain _ cs' rfl h.1.symm h.2.1.symm
 | _ =>
  intro cs vs g H fp r M hv h;cases cs with
  | nil=>simp[rowsIn,MA.eval]at h
  | cons c cs' =>
   simp only[rowsIn,MA.eval,Option.some.injEq,Prod.mk.injEq]at h;obtain⟨rfl,rfl,rfl⟩:=h
   match vs,hv with
   | u::vs,⟨hu,hv⟩=>exact⟨g,Ext.refl _ _ _,fun _=>rfl,M,[u],vs,rfl,⟨hu,trivial⟩,hv⟩
theorem vS{x v:SV}{X:Value}{g:Gh}{H:HF}{fp:FP}(M:Mem mt g H w.heap)(hx:aV g w.heap x X)(h:(freezeM x).eval base H fp=some (v,H',fp')) :
  ∃g',Ext mt g w g' w∧(∀n,g'.φ n=g.φ n)∧Mem mt g' H' w.heap∧aV g' w.heap v X:=by
 unfold freezeM at h;split at h
 ·rename_i n
  rw[MA.eval_bind]at h;cases h1:(rowsIn (.row .bool) [.own n]).eval base H fp with
  | none=>rw[h1]at h;cases h
  | some y =>
   obtain⟨y,H1,fp1⟩:=y;rw[h1]at h
   simp only at h
   obtain⟨g1,e1,p1,M1,us,us',k1,k2,k3⟩:=kS _ [.own n] [X] g H fp y M ⟨hx,trivial⟩ h1;split at h
   ·rename_i c hc
    simp only[MA.eval,Option.some.injEq,Prod.mk.injEq]at h;obtain⟨rfl,rfl,rfl⟩:=h;rw[hc]at k2
    match us,k2,k1 with
    | [u],⟨k2,_⟩,k1 =>
     injection k1 with k1
     subst k1;exact⟨g1,e1,p1,M1,k2⟩
   ·exact(aj h).elim
 ·simp only[MA.eval,Option.some.injEq,Prod.mk.injEq]at h
  obtain⟨rfl,rfl,rfl⟩:=h;exact⟨g,Ext.refl _ _ _,fun _=>rfl,M,hx⟩
theorem nf(e:Ty):∀(n:Nat) (cs:List CV) (vs:List Value) (g:Gh) (H H':HF) (fp fp':FP) (r:List CV),Mem mt g H w.heap→All2 (VR g w.heap) cs vs→(gu e n cs).eval base H fp=some (r,H',fp') →
  ∃g',Ext mt g w g' w∧(∀n,g'.φ n=g.φ n)∧Mem mt g' H' w.heap∧All2 (VR g' w.heap) r vs
 | 0,[],vs,g,H,H',fp,fp',r,M,hv,h=>by
  simp only[gu,MA.eval,Option.some.injEq,Prod.mk.injEq]at h;obtain⟨rfl,rfl,rfl⟩:=h;exact⟨g,Ext.refl _ _ _,fun _=>rfl,M,hv⟩
 | 0,_::_,_,_,_,_,_,_,_,_,_,h=>by simp[gu,MA.eval]at h
 | n+1,cs,vs,g,H,H',fp,fp',r,M,hv,h=>by
  simp only[gu,MA.eval_bind]at h;cases h1:(rowsIn e cs).eval base H fp with
  | none=>rw[h1]at h;cases h
  | some x =>
   obtain⟨x,H1,fp1⟩:=x;rw[h1]at h
   simp only at h
   cases h2:(gu e n x.2).eval base H1 fp1 with
   | none=>rw[h2]at h;cases h
   | some y =>
    obtain⟨y,H2,fp2⟩:=y;rw[h2]at h;simp only[MA.eval,Option.some.injEq,Prod.mk.injEq]at h;obtain⟨rfl,rfl,rfl⟩:=h;obtain⟨g1,e1,p1,M1,us,us',k1,k2,k3⟩:=kS e cs vs g H fp x M hv h1;obtain⟨g2,e2,p2,M2,l2⟩:=nf e n x.2 us' g1 H1 H2 fp1 fp2 y M1 k3 h2;exact⟨g2,e1.trans e2,fun n=>(p2 n).trans (p1 n),M2,by rw[k1];exact All2.append (All2.mono (VR.aL (e2.aL M1.ro)) _ _ k2) l2⟩
theorem ju:∀(cs:List CV) (vs:List Value) (g:Gh) (H H':HF) (fp fp':FP) (r:List CV),Mem mt g H w.heap→All2 (VR g w.heap) cs vs→(freezeCs cs).eval base H fp=some (r,H',fp') →
  ∃g',Ext mt g w g' w∧(∀n,g'.φ n=g.φ n)∧Mem mt g' H' w.heap∧All2 (VR g' w.heap) r vs
 | [],vs,g,H,H',fp,fp',r,M,hv,h=>by
  simp only[freezeCs,MA.eval,Option.some.injEq,Prod.mk.injEq]at h;obtain⟨rfl,rfl,rfl⟩:=h;exact⟨g,Ext.refl _ _ _,fun _=>rfl,M,hv⟩
 | _::_,[],_,_,_,_,_,_,_,hv,_=>hv.elim
 | c::cs,u::vs,g,H,H',fp,fp',r,M,hv,h=>by
  have plain:((freezeCs cs).bind fun y=>.pure (c::y)).eval base H fp=some (r,H',fp')→∃g',Ext mt g w g' w∧(∀n,g'.φ n=g.φ n)∧Mem mt g' H' w.heap∧All2 (VR g' w.heap) r (u::vs):=fun h=>by
   rw[MA.eval_bind]at h;cases h2:(freezeCs cs).eval base H fp with
   | none=>rw[h2]at h;cases h
   | some y =>
    obtain⟨y,H2,fp2⟩:=y;rw[h2]at h;simp only[MA.eval,Option.some.injEq,Prod.mk.injEq]at h;obtain⟨rfl,rfl,rfl⟩:=h;obtain⟨g2,e2,p2,M2,l2⟩:=ju cs vs g H H2 fp fp2 y M hv.2 h2;exact⟨g2,e2,p2,M2,VR.aL (e2.aL M.ro) _ _ hv.1,l2⟩
  cases c with
  | own n =>
   simp only[freezeCs,MA.eval_bind]at h;cases h1:(rowsIn (.row .bool) [.own n]).eval base H fp with
   | none=>rw[h1]at h;cases h
   | some x =>
    obtain⟨x,H1,fp1⟩:=x;rw[h1]at h
    simp only at h
    cases h2:(freezeCs cs).eval base H1 fp1 with
    | none=>rw[h2]at h;cases h
    | some y =>
     obtain⟨y,H2,fp2⟩:=y;rw[h2]at h;simp only[MA.eval,Option.some.injEq,Prod.mk.injEq]at h;obtain⟨rfl,rfl,rfl⟩:=h;obtain⟨g1,e1,p1,M1,us,us',k1,k2,k3⟩:=kS (.row .bool) [.own n] [u] g H fp x M ⟨hv.1,trivial⟩ h1;obtain⟨g2,e2,p2,M2,l2⟩:=ju cs vs g1 H1 H2 fp1 fp2 y M1 (All2.mono (VR.aL (e1.aL M.ro)) _ _ hv.2) h2;have hr2:x.2=[]:=by
      simp only[rowsIn,MA.eval]at h1;split at h1
      ·split at h1<;>simp only[MA.eval]at h1
       ·split at h1
        ·simp only[Option.some.injEq,Prod.mk.injEq]at h1;rw[←h1.1]
        ·cases h1
       ·simp only[Option.some.injEq,Prod.mk.injEq]at h1;rw[←h1.1]
       ·cases h1
      ·cases h1
     rw[hr2]at k3
     match us',k3,k1 with
     | [],_,k1 =>
      rw[List.append_nil]at k1;subst k1;exact⟨g2,e1.trans e2,fun n=>(p2 n).trans (p1 n),M2,All2.append (m:=[u]) (All2.mono (VR.aL (e2.aL M1.ro)) _ _ k2) l2⟩
  | _=>exact plain h
theorem nF{g:Gh}{hp:HP}:∀(cs:List CV) (l:List cn) (vs:List Value),celsOf cs=some l→All2 (VR g hp) cs vs→All2 (pr g.ro hp) l vs
 | [],l,vs,h,hv=>by simp only[celsOf,Option.some.injEq]at h;subst h;cases vs with | nil=>trivial | cons _ _=>exact hv.elim
 | _::_,_,[],_,hv=>hv.elim
 | c::cs,l,v::vs,h,hv=>by
  unfold celsOf at h;split at h
  ·cases ‹_::_=[]›
  ·rename_i k n r e
   cases e;cases h1:celsOf cs with
   | none=>rw[h1]at h;cases h
   | some l'=>rw[h1]at h;cases h;exact⟨hv.1,nF cs l' vs h1 hv.2⟩
  ·rename_i b r e
   cases e;cases h1:celsOf cs with
   | none=>rw[h1]at h;cases h
   | some l'=>rw[h1]at h;cases h;exact⟨hv.1,nF cs l' vs h1 hv.2⟩
  ·rename_i x r e
   cases e;cases h1:celsOf cs with
   | none=>rw[h1]at h;cases h
   | some l' =>
    rw[h1]at h;cases h;obtain⟨A,c,k1,k2,k3⟩:=hv.1;simp only[List.cons.injEq,and_true]at k1;exact⟨⟨A,c,k1,k2,k3⟩,nF cs l' vs h1 hv.2⟩
  ·rename_i r e
   cases e;cases h1:celsOf cs with
   | none=>rw[h1]at h;cases h
   | some l'=>rw[h1]at h;cases h;exact⟨⟨none,0,hv.1,Nat.le_refl _,fun q=>absurd rfl q⟩,nF cs l' vs h1 hv.2⟩
  ·cases h
theorem Aj{t:Nat}{x:SV}{X:Value}(hP:P.concrete t=true)(M:Mem mt g H w.heap)(hx:aV g w.heap x X)(h:(faceM t x).eval base H fp=some (v,H',fp')):jL P mt g H' w base v (Instr.makeInterface t X):=by
 unfold faceM at h;split at h
 ·rename_i cs
  obtain⟨vs,rfl,hv⟩:=hx;rw[MA.eval_bind]at h;cases h1:(freezeCs cs).eval base H fp with
  | none=>rw[h1]at h;cases h
  | some y =>
   obtain⟨y,H1,fp1⟩:=y;rw[h1]at h;obtain⟨g1,e1,p1,M1,l1⟩:=ju cs vs g H H1 fp fp1 y M hv h1
   simp only at h
   split at h
   ·rename_i l hl
    obtain⟨rfl,rfl⟩:=c7 h;exact⟨.iface t (.agg vs.toArray),w,run_makeInterface w t _ hP,aY.tG e1 p1 (aY.same M1 ⟨vs,rfl,nF y l vs hl l1⟩)⟩
   ·exact(aj h).elim
 ·exact(aj h).elim
theorem yY{α:Type}{l r:List α}{j:Nat}{a:α}(h:l.drop j=a::r):l[j]?=some a∧l.drop (j+1)=r:=by
 refine⟨?_,?_⟩
 ·have:=congrArg (fun q=>q[0]?) h
  simpa [List.getElem?_drop] using this
 ·have:=congrArg (List.drop 1) h
  simpa [List.drop_drop] using this
theorem ml{g:Gh}{hp:HP}{full:List cn}:∀(z:List CV) (cs:List cn) (us:List Value) (j:Nat),okCels z cs=true→full.drop j=cs→All2 (pr g.ro hp) cs us→All2 (VR g hp) (nn z full j) us
 | [],[],us,j,_,_,hv=>by cases us with | nil=>trivial | cons _ _=>exact hv.elim
 | [],_::_,_,_,h,_,_=>by simp[okCels]at h
 | a::z,[],_,_,h,_,_=>by cases a<;>simp[okCels]at h
 | _::_,_::_,[],_,_,_,hv=>hv.elim
 | a::z,c::cs,u::us,j,h,hd,hv=>by
  obtain⟨d1,d2⟩:=yY hd;cases a<;>cases c<;>first | (simp[okCels]at h;done) | skip
  ·simp only[okCels,Bool.and_eq_true,decide_eq_true_eq]at h
   refine⟨?_,ml z cs us (j+1) h.2 d2 hv.2⟩;show u=_;rw[show cm full j=_ by unfold cm;rw[d1],←h.1]
   exact hv.1
  ·simp only[okCels]at h
   refine⟨?_,ml z cs us (j+1) h d2 hv.2⟩;show u=_;rw[show Bt full j=_ by unfold Bt;rw[d1]]
   exact hv.1
  ·simp only[okCels]at h
   refine⟨?_,ml z cs us (j+1) h d2 hv.2⟩;obtain⟨A,c,k1,k2,k3⟩:=hv.1;show Rd g.ro hp (.row (.int .u8)) (uz full j) [u];rw[show uz full j=_ by unfold uz;rw[d1]]
   exact⟨A,c,by rw[k1],k2,k3⟩
theorem xy{t:Nat}{i:TI}(T:aC P t i)(ha:i.agg=true):∃d,P.underlying t=some d∧(∀m,d≠.interface m):=by
 obtain⟨x,d,z,h1,h2,h3,h4,h5,h6,h7⟩:=T.get;refine⟨d,h6,fun m e=>?_⟩
 subst e;unfold TI.agg at ha;rw[←h7]at ha;cases ha
theorem uq{t:Nat}{i:TI}(T:aC P t i)(ha:i.agg=true):P.concrete t=true:=by
 obtain⟨d,h1,h2⟩:=xy T ha;unfold Program.concrete;rw[h1];cases d<;>first | rfl | exact absurd rfl (h2 _)
theorem vW{t xT:Nat}{i:TI}{x:SV}{X:Value}(T:aC P t i)(ha:i.agg=true)(hx:aV g w.heap x X)(h:(assertM t i x).eval base H fp=some (v,H',fp')):bU P g H H' w v (Instr.typeAssert X xT t true):=by
 obtain⟨d0,hu,hni⟩:=xy T ha;obtain⟨z,_,hz⟩:=pI T w;unfold assertM at h;split at h
 ·rename_i d
  have hx:iI g.ro w.heap d X:=hx;have no:∀s,(Instr.typeAssert X xT t true).run P w=.ok (.tuple #[z,.bool false]) w→(MA.pure (.tup [.c .dead,.c (.bool false)]):MA SV).eval base H s=some (v,H',fp')→bU P g H H' w v (Instr.typeAssert X xT t true):=fun s hr h=>by
   simp only[MA.eval,Option.some.injEq,Prod.mk.injEq]at h;obtain⟨rfl,rfl,_⟩:=h;exact⟨_,hr,⟨[z,.bool false],rfl,trivial,rfl,trivial⟩,rfl⟩
  cases d with
  | non =>
   obtain rfl:X=_:=hx;refine no fp ?_ h;unfold Instr.typeAssert;cases d0<;>first | exact absurd rfl (hni _) | simp[run_underlying hu,hz]
  | mk t' cs =>
   obtain⟨us,rfl,hv⟩:=hx;cases hb:Nat.beq t' t with
   | false =>
    have h:(MA.pure (.tup [.c .dead,.c (.bool false)]):MA SV).eval base H fp=some (v,H',fp'):=by
     simp only[MA.eval,Dyn.is,hb,Bool.false_eq_true,if_false]at h ⊢;exact h
    have hne:¬t'=t:=fun e=>by subst e;rw[bT]at hb;cases hb
    refine no fp ?_ h;unfold Instr.typeAssert;cases d0<;>first | exact absurd rfl (hni _) | simp[run_underlying hu,hz,hne]
   | true =>
    obtain rfl:=beq_eq hb;cases hk:okCels i.zero (Dyn.mk t' cs).cs with
    | false=>simp only[MA.eval,Dyn.is,hb,hk,if_true,Bool.false_eq_true,if_false]at h;cases h
    | true =>
     simp only[MA.eval,Dyn.is,hb,hk,if_true,Option.some.injEq,Prod.mk.injEq]at h;obtain⟨rfl,rfl,_⟩:=h;refine⟨.tuple #[.agg us.toArray,.bool true],?_,⟨[.agg us.toArray,.bool true],rfl,⟨us,rfl,ml i.zero cs us 0 hk rfl hv⟩,rfl,trivial⟩,rfl⟩;unfold Instr.typeAssert;cases d0<;>first | exact absurd rfl (hni _) | simp[run_underlying hu]
 ·exact(aj h).elim
end
end Go.Proofs.YthdgahpomhnidaaGreat.Mx
namespace Go.Proofs.YthdgahpomhnidaaGreat.Mx
open Go
variable {P:Program}
section
variable {mt:Nat→Prop} {g:Gh} {H H':HF} {w:World} {base:Nat} {fp fp':FP} {v:SV}
theorem kJ{bQ:List (Nat×TI)}{t:Nat}{k:Ty→TI→MA SV}(T:bL P bQ)(h:(elemM bQ t k).eval base H fp=some (v,H',fp')) :
  ∃i e j ty,tget bQ t=some i∧aC P t i∧i.bD=.slice e∧aC P e j∧j.ty=some ty∧(k ty j).eval base H fp=some (v,H',fp'):=by
 unfold elemM at h;split at h
 ·rename_i i hi
  split at h
  ·rename_i e he
   split at h
   ·rename_i j hj
    split at h
    ·rename_i ty hty
     exact⟨i,e,j,ty,hi,T _ _ hi,he,T _ _ hj,hty,h⟩
    ·exact(aj h).elim
   ·exact(aj h).elim
  ·exact(aj h).elim
 ·exact(aj h).elim
theorem tg{e:Nat}{j:TI}{ty:Ty}(hj:aC P e j)(h:j.ty=some ty):ty.zeroV=j.zero.map rT∧ty.size=j.size:=by
 have h1:=hj.ty;have h2:=hj.HU;rw[h]at h1 h2;simp only[Option.map_some,Option.some.injEq]at h1 h2;exact⟨h1,h2⟩
theorem gT{t e:Nat}{i:TI}(ht:aC P t i)(hu:i.bD=.slice e):P.underlying t=some (.slice e):=by
 obtain⟨d,hd,hu2⟩:=ck ht;rw[hu]at hu2;cases d<;>first | (cases hu2;done) | (injection hu2 with hu2;subst hu2)
 exact hd
theorem gI{s:Nat}{o:Obj}{m:MA SV}(h:(MA.new s o m).eval base H fp=some (v,H',fp')):∃fp2,H (base+s)=none∧s<keys∧m.eval base (eQ H (base+s) (some o)) fp2=some (v,H',fp'):=by
 simp only[MA.eval]at h;cases ho:H (base+s) with
 | some _=>rw[ho]at h;cases h
 | none =>
  rw[ho]at h
  simp only at h
  by_cases hs:s<keys
  ·rw[if_pos hs]at h;exact⟨_,rfl,hs,h⟩
  ·rw[if_neg hs]at h;cases h
theorem AG{t e:Nat}{i j:TI}{ty:Ty}{x y:SV}{X Y:Value}(ht:aC P t i)(hu:i.bD=.slice e)(he:aC P e j)(hty:j.ty=some ty)(M:Mem mt g H w.heap)(hm:∀b,w.heap.size≤b→mt b)(hf:∀n,base≤n→n<base+keys→g.φ n=none)
  (hx:aV g w.heap x X) (hy:aV g w.heap y Y) (h:(makeM ty j.bytes x y).eval base H fp=some (v,H',fp')):jL P mt g H' w base v (Instr.makeSlice t X Y):=by
 unfold makeM at h;split at h
 ·rename_i k1 n k2 c
  obtain rfl:X=_:=hx;obtain rfl:Y=_:=hy;rcases aW h with ⟨hr,h⟩ | ⟨_,h⟩
  ·simp only[decide_eq_true_eq]at hr
   obtain⟨n0,nc,cl⟩:=hr;obtain⟨info,d,z,h1,h2,h3,h4,h5,h6,h7⟩:=he.get;obtain⟨zv,zs⟩:=tg he hty;have hzs:z.cells.size=info.size:=by
    have:=congrArg List.length h5;rw[List.length_map,he.ym]at this;rw[h2];simpa using this
   have hbyte:(info.bytes:Int)*c≤281474976710656:=by
    rw[h3];have h8:j.bytes*(140737488355328/j.bytes)≤140737488355328:=Nat.mul_div_le _ _;have h9:(j.bytes:Int)*c≤(j.bytes:Int)*((140737488355328/j.bytes:Nat):Int):=Int.mul_le_mul_of_nonneg_left cl (by omega)
    have h10:((j.bytes*(140737488355328/j.bytes):Nat):Int)≤140737488355328:=by omega
    rw[Int.natCast_mul]at h10;omega
   have hc63:c≤9223372036854775807:=by
    have:aB j.bytes≤140737488355328:=Nat.div_le_self _ _;omega
   have hrun:=run_make (P:=P) w t e info z (gT ht hu) h1 h4 k1 k2 n c n0 nc hbyte hc63;simp only[MA.eval]at h;obtain⟨fp2,ho,hs,h⟩:=gI h;obtain⟨rfl,rfl⟩:=c7 h
   let Q:Pl:=⟨some w.heap.size,some ⟨w.heap.size,0,none⟩,n.toNat,c.toNat,ty.size⟩
   refine⟨_,_,hrun,?_⟩;have hfr:=hf (base+0) (by omega) (by have:=fP;omega)
   have hR:Rd g.ro w.heap ty ty.dh z.cells.toList:=by rw[h5,←zv];exact Rd.dh _ _ ty
   have st:cA g w.heap (dJ g (base+0) Q) (w.heap.push (.cells (madeCells z.cells (c.toNat*info.size)) e)):=⟨fun _ h=>h,fun b hb=>dW _ _ _ (M.ro b hb),cy hfr⟩
   obtain⟨us,rest,k3,k4⟩:=vm (n:=n.toNat) (c:=c.toNat) hR (by omega)
   rw[hzs]at k3;refine aY.new (Q:=Q) M hm rfl rfl rfl rfl hfr hs rfl rfl ?_ ⟨Q,cj g _ Q,rfl⟩;refine⟨by simp[Q],rfl,by show n.toNat≤c.toNat;omega,rfl,_,e,us,rest,fN _ _,k3,RdL.mono (fun x vs=>Rd.aL st.ro st.hp ty x vs) _ _ k4,?_⟩
   show c.toNat*ty.size≤_;rw[size_madeCells,h2,zs];exact Nat.le_refl _
  ·exact(aj h).elim
 ·exact(aj h).elim
theorem buildSlice_does{t e n:Nat}{i j:TI}{ty:Ty}{ps:List (Nat×SV)}{vs:List (Nat×Value)}{cs:List CV}(ht:aC P t i)(hu:i.bD=.slice e)(he:aC P e j)(hty:j.ty=some ty)(M:Mem mt g H w.heap)(hm:∀b,w.heap.size≤b→mt b)(hf:∀n,base≤n→n<base+keys→g.φ n=none)
  (hps:All2 (tj g w.heap) ps vs) (hc:fillCs (fun i=>some (i*j.size,j.size)) (repCs j.zero n) ps=some cs) (hn:Nat.ble (n*j.size) 16777216=true)
  (h:((gu ty n cs).bind fun cs'=>match ty.decL n cs' with
   | some l=>.base fun b=>.new 0 (.arr ty l) (ret (.own b))
   | none=>.fail).eval base H fp=some (v,H',fp')):jL P mt g H' w base v (Instr.buildSlice t n vs.toArray):=by
 obtain⟨info,d,z,h1,h2,h3,h4,h5,h6,h7⟩:=he.get;obtain⟨zv,zs⟩:=tg he hty;have hzs:z.cells.size=info.size:=by
  have:=congrArg List.length h5;rw[List.length_map,he.ym]at this;rw[h2];simpa using this
 have hpos:0<info.size:=by rw[h2,←zs];exact ty.size_pos
 have hz:All2 (VR g w.heap) j.zero z.cells.toList:=by rw[h5];exact nK g w.heap j.zero he.F1
 have hinit:All2 (VR g w.heap) (repCs j.zero n) (madeCells z.cells (n*info.size)).toList:=by rw[←hzs];exact DB hz n (by rw[hzs];exact hpos)
 obtain⟨cells,f1,f2⟩:=kl (place:=fun i=>some (i*info.size,info.size)) (fun k x hx=>by rw[h2];exact hx) ps vs _ cs _ hps hinit hc
 have hrun:(Instr.buildSlice t n vs.toArray).run P w=.ok (.slice (some ⟨w.heap.size,0,none⟩) n n) (w.alloc (.cells cells e)):=by
  by_cases hn0:n=0
  ·subst hn0
   have hf1:Instr.fill (fun i=>some (i*info.size,info.size)) #[] vs=some cells:=by
    have e0:madeCells z.cells (0*info.size)=#[]:=by simp[madeCells]
    rw[e0]at f1;exact f1
   simp only[Instr.buildSlice,Sem.run_bind,run_underlying (gT ht hu),Result.andThen_ok,cx he,Nat.zero_mul,Nat.not_lt_zero,gt_iff_lt,if_false,Sem.run_pure,if_true];have e1:∀(f:Nat→Value),(Array.range 0).map f=#[]:=fun f=>by simp
   rw[←h2,e1,hf1];simp only[newRow,Sem.run_bind,run_newObj,Result.andThen_ok,Sem.run_pure];rfl
  ·refine run_buildSlice (P:=P) w t e n vs.toArray cells info z (gT ht hu) h1 h4 ?_ ?_ (by exact f1)
   ·have:=Nat.le_of_ble_eq_true hn;rw[h2];omega
   ·intro hh
    rcases Nat.mul_eq_zero.1 hh with h' | h'
    ·exact hn0 h'
    ·omega
 rw[MA.eval_bind]at h;cases hr:(gu ty n cs).eval base H fp with
 | none=>rw[hr]at h;cases h
 | some p =>
  obtain⟨cs',H1,fp1⟩:=p;rw[hr]at h
  simp only at h
  obtain⟨g1,e1,p1,M1,hv1⟩:=nf ty n cs _ g H H1 fp fp1 cs' M f2 hr;split at h
  ·rename_i l hl
   simp only[MA.eval]at h;obtain⟨fp2,ho,hs,h⟩:=gI h;obtain⟨rfl,rfl⟩:=c7 h;obtain⟨k1,k2⟩:=ru n cs' _ l hv1 hl
   let Q:Pl:=⟨some w.heap.size,some ⟨w.heap.size,0,none⟩,n,n,ty.size⟩
   refine⟨_,_,hrun,?_⟩;have hfr:g1.φ (base+0)=none:=by rw[p1];exact hf (base+0) (by omega) (by have:=fP;omega)
   have st:cA g1 w.heap (dJ g1 (base+0) Q) (w.heap.push (.cells cells e)):=⟨fun _ h=>h,fun b hb=>dW _ _ _ (M1.ro b hb),cy hfr⟩
   refine aY.sH e1 p1 (aY.new (Q:=Q) M1 hm rfl rfl rfl rfl hfr hs rfl rfl ?_ ⟨Q,cj g1 _ Q,rfl⟩);refine⟨by simp[Q,k2],rfl,Nat.le_refl _,rfl,_,e,cells.toList,[],fN _ _,by simp,RdL.mono (fun x vs=>Rd.aL st.ro st.hp ty x vs) _ _ k1,?_⟩
   have:=RdL.length l _ k1;rw[k2]at this;show n*ty.size≤cells.size;rw[←this];simp
  ·exact(aj h).elim
theorem yX{ty:Ty}{y:SV}{Y:Value}{more:List ty.T}(M:Mem mt g H w.heap)(hy:aV g w.heap y Y)(h:(moreM ty y).eval base H fp=some (more,H',fp')) :
  H'=H∧∃A c,Y=.slice A more.length c∧(more≠[]→∃b o us,A=some ⟨b,o,none⟩∧(∀q u,us[q]?=some u→w.cell? ⟨b,o+q,none⟩=some u)∧RdL (Rd g.ro w.heap ty) more us):=by
 unfold moreM at h;split at h
 ·rename_i e' l
  split at h
  ·rename_i q
   subst q;simp only[MA.eval,Option.some.injEq,Prod.mk.injEq]at h;obtain⟨rfl,rfl,_⟩:=h;obtain⟨A,c,hv,hc,hrow⟩:=(hy:Rd g.ro w.heap (.row e') l [Y]);simp only[List.cons.injEq,and_true]at hv;refine⟨rfl,A,c,hv,fun hl=>?_⟩
   obtain⟨b,o,cs,t,fz,us,rest,h1,h2,h3,h4,h5⟩:=hrow hl;exact⟨b,o,us,h1,fun q u hu=>by rw[dV h3,←List.getElem?_drop,h4,List.getElem?_append_left (List.getElem?_eq_some_iff.1 hu).1];exact hu,h5⟩
  ·cases h
 ·simp only[MA.eval,Option.some.injEq,Prod.mk.injEq]at h
  obtain⟨rfl,rfl,_⟩:=h;obtain rfl:Y=_:=hy;exact⟨rfl,none,0,rfl,fun hl=>absurd rfl hl⟩
 ·rename_i n
  obtain⟨Q,hQ,rfl⟩:=(hy:VR g w.heap (.own n) Y);obtain⟨o,ho,h⟩:=dw h;obtain⟨Q',hQ',hO⟩:=M.obj n o ho;rw[hQ]at hQ';cases hQ';have fin:∀l:List ty.T,cr g w.heap Q ty l→∃A c,Value.slice Q.base Q.len Q.cap=.slice A l.length c∧(l≠[]→∃b o us,A=some ⟨b,o,none⟩∧(∀q u,us[q]?=some u→w.cell? ⟨b,o+q,none⟩=some u)∧RdL (Rd g.ro w.heap ty) l us):=fun l hA=>by
   refine⟨Q.base,Q.cap,by rw[hA.1],fun hl=>?_⟩
   obtain⟨b,cs,t,fz,us,rest,h1,h2,h3,h4⟩:=lG hA hl;exact⟨b,0,us,h1,fun q u hu=>by rw[dV h2,Nat.zero_add,h3,List.getElem?_append_left (List.getElem?_eq_some_iff.1 hu).1];exact hu,h4⟩
  split at h
  ·rename_i e' l
   split at h
   ·rename_i q
    subst q;simp only[MA.eval,Option.some.injEq,Prod.mk.injEq]at h;obtain⟨rfl,rfl,_⟩:=h;exact⟨rfl,fin l hO⟩
   ·cases h
  ·rename_i e' l
   split at h
   ·rename_i q
    subst q;simp only[MA.eval,Option.some.injEq,Prod.mk.injEq]at h;obtain⟨rfl,rfl,_⟩:=h;exact⟨rfl,fin l hO⟩
   ·cases h
  ·cases h
 ·rename_i n lo hi
  obtain⟨Q,A,c,hQ,hlo,hhi,hcap,rfl,hA⟩:=(hy:VR g w.heap (.sub n lo hi) Y);obtain⟨o,ho,h⟩:=dw h;obtain⟨Q',hQ',hO⟩:=M.obj n o ho;rw[hQ]at hQ';cases hQ';have fin:∀l:List ty.T,cr g w.heap Q ty l→∃A' c',Value.slice A (hi-lo) c=.slice A' ((l.take hi).drop lo).length c'∧((l.take hi).drop lo≠[]→∃b o us,A'=some ⟨b,o,none⟩∧(∀q u,us[q]?=some u→w.cell? ⟨b,o+q,none⟩=some u)∧RdL (Rd g.ro w.heap ty) ((l.take hi).drop lo) us):=fun l hAr=>by
   have hlen:((l.take hi).drop lo).length=hi-lo:=by rw[List.length_drop,List.length_take,←hAr.1];omega
   refine⟨A,c,by rw[hlen],fun hl=>?_⟩
   have hlt:lo<hi:=by
    rcases Nat.lt_or_ge lo hi with h' | h'
    ·exact h'
    ·exact absurd (List.length_eq_zero_iff.1 (by rw[hlen];omega)) hl
   obtain⟨b,hb1,hb2⟩:=hA hlt;have hne:l≠[]:=by rintro rfl;have:=hAr.1;simp at this;omega
   obtain⟨b',cs,t,fz,us,rest,h1,h2,h3,h4⟩:=lG hAr hne;obtain⟨a1,a2,a3,a4⟩:=hAr;rw[hb1]at a4;rw[a4.1]at h1;cases h1;have hul:=RdL.length l us h4;refine⟨b,lo*Q.size,(us.take (hi*ty.size)).drop (lo*ty.size),hb2,fun q u hu=>?_,RdL.take_drop l us lo hi h4 (by omega)⟩
   rw[dV h2,a2,h3,List.getElem?_append_left]
   ·rw[List.getElem?_drop,List.getElem?_take]at hu
    split at hu
    ·exact hu
    ·cases hu
   ·have:=(List.getElem?_eq_some_iff.1 hu).1
    rw[List.length_drop,List.length_take]at this;omega
  split at h
  ·rename_i e' l
   split at h
   ·rename_i q
    subst q;simp only[MA.eval,Option.some.injEq,Prod.mk.injEq]at h;obtain⟨rfl,rfl,_⟩:=h;exact⟨rfl,fin l hO⟩
   ·cases h
  ·rename_i e' l
   split at h
   ·rename_i q
    subst q;simp only[MA.eval,Option.some.injEq,Prod.mk.injEq]at h;obtain⟨rfl,rfl,_⟩:=h;exact⟨rfl,fin l hO⟩
   ·cases h
  ·cases h
 ·cases h
end
end Go.Proofs.YthdgahpomhnidaaGreat.Mx

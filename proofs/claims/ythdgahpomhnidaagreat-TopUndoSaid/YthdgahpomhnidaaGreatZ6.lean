import Derived.Lib.AppendZerosOnto
import Derived.Test.YthdgahpomhnidaaGreatZ5
set_option linter.unusedSimpArgs false
set_option linter.unusedVariables false
set_option autoImplicit false
namespace Go.Proofs.YthdgahpomhnidaaGreat.Mx
open Go
variable {P:Program}
section
variable {mt:Nat→Prop} {g:Gh} {H H':HF} {w:World} {base:Nat} {fp fp':FP} {v:SV}
theorem iI.one{ro:Nat→Prop}{hp:HP}:∀(d:Dyn) (v:Value),iI ro hp d v→v.oneCell'=true
 | .non,_,h=>by rw[show _=_ from h];rfl
 | .mk _ _,_,⟨_,h,_⟩=>by rw[h];rfl
theorem Rd.one{ro:Nat→Prop}{hp:HP}:∀(e:Ty) (x:e.T) (vs:List Value),Rd ro hp e x vs→∀u∈vs,u.oneCell'=true
 | .int _,_,_,h,u,hu=>by rw[show _=_ from h]at hu;simp at hu;subst hu;rfl
 | .bool,_,_,h,u,hu=>by rw[show _=_ from h]at hu;simp at hu;subst hu;rfl
 | .str,_,_,h,u,hu=>by rw[show _=_ from h]at hu;simp at hu;subst hu;rfl
 | .row e,l,_,⟨A,c,h,_⟩,u,hu=>by rw[h]at hu;simp at hu;subst hu;rfl
 | .prod a b,x,_,⟨p,q,h,h1,h2⟩,u,hu=>by
  rw[h]at hu;rcases List.mem_append.1 hu with hu | hu
  ·exact Rd.one a x.1 p h1 u hu
  ·exact Rd.one b x.2 q h2 u hu
 | .ifc,d,_,⟨v,h,hd⟩,u,hu=>by rw[h]at hu;simp at hu;subst hu;exact iI.one d _ hd
theorem RdL.one{ro:Nat→Prop}{hp:HP}{e:Ty}:∀(l:List e.T) (vs:List Value),RdL (Rd ro hp e) l vs→∀u∈vs,u.oneCell'=true
 | [],vs,h,u,hu=>by rw[show vs=[] from h]at hu;cases hu
 | x::l,_,⟨p,q,h,h1,h2⟩,u,hu=>by
  rw[h]at hu;rcases List.mem_append.1 hu with hu | hu
  ·exact Rd.one e x p h1 u hu
  ·exact RdL.one l q h2 u hu
theorem aY.move{w':World}{n s:Nat}{V:Value}{o o':Obj}{Q Q':Pl}(M:Mem mt g H w.heap)(hH:H n=some o)(hQ:g.φ n=some Q)(hi:o.dA=false)(hi':o'.dA=false)(hb:∀b,Q'.bJ=some b→Q.bJ=some b)
  (hfr:g.φ (base+s)=none) (hs:s<keys) (hk:∀c,Q.bJ≠some c→w'.heap[c]?=w.heap[c]?) (hsz:w'.heap.size=w.heap.size) (h2:w'.os=w.os) (h3:w'.tape=w.tape) (h4:w'.output=w.output)
  (ho:cA g w.heap (dJ g (base+s) Q') w'.heap→fk (dJ g (base+s) Q') w'.heap Q' o') (hv:aV (dJ g (base+s) Q') w'.heap v V):aY mt g w base (eQ (eQ H n none) (base+s) (some o')) v V w':=by
 have hown:∀b,Q.bJ=some b→mt b∧¬g.ro b:=fun b hb=>M.own n o Q b hH hi hQ hb
 have st:cA g w.heap (dJ g (base+s) Q') w'.heap:=⟨fun _ h=>h,fun c hc=>hk c fun e=>(hown c e).2 hc,cy hfr⟩
 refine⟨dJ g (base+s) Q',⟨h2,h3,h4,by rw[hsz];exact Nat.le_refl _,fun c hc hor=>hk c fun e=>hor.elim (fun h=>h (hown c e).1) (hown c e).2,fun _ h=>h,fun _ h=>.inl h,cy hfr⟩,fun m hm=>nZ g Q' (by omega),?_,hv⟩
 have M1:=M.del n;have M2:Mem mt g (eQ H n none) w'.heap:=by
  have st0:cA g w.heap g w'.heap:=⟨fun _ h=>h,st.hp,fun _ _ h=>h⟩
  refine⟨fun m o2 h=>?_,M1.own,M1.bF,M1.sep,fun b h=>by rw[hsz];exact M.ro b h⟩
  have hm:m≠n:=fun e=>by subst e;rw[aS]at h;cases h
  have hH2:H m=some o2:=by rw[aR _ _ hm]at h;exact h
  obtain⟨R,hR,hO⟩:=M.obj m o2 hH2;exact⟨R,hR,hO.aL st0 fun b hRb=>hk b fun e=>M.sep m n o2 o R Q b hm hH2 hH hR hQ hRb e⟩
 refine M2.put (P:=Q') (cj g _ Q') (cy hfr) rfl hi' (fun b hb'=>?_) (fun _ _ _=>rfl) (Nat.le_refl _) (ho st)
 refine⟨(hown b (hb b hb')).1,(hown b (hb b hb')).2,fun m o2 R hm h hR hRb=>?_⟩
 have hmn:m≠n:=fun e=>by subst e;rw[aS]at h;cases h
 rw[aR _ _ hmn]at h;exact M.sep m n o2 o R Q b hmn h hH hR hQ hRb (hb b hb')
theorem pC{α:Type}{n:Nat}{k:MA α}{a:α}(h:(MA.del n k).eval base H fp=some (a,H',fp')):∃fp2,k.eval base (eQ H n none) fp2=some (a,H',fp'):=by
 simp only[MA.eval]at h;cases ho:H n with
 | none=>rw[ho]at h;cases h
 | some o=>rw[ho]at h;exact⟨_,h⟩
theorem kC{α:Type}{k:Nat→MA α}{a:α}(h:(MA.base k).eval base H fp=some (a,H',fp')):(k base).eval base H fp=some (a,H',fp'):=h
theorem lK{t ty:Nat}{e:Nat}{i:TypeInfo}(ht:P.underlying t=some (.slice e))(hi:P.info? e=some i)(B:Option Addr)(n c:Nat)(hn:n≤c)(A:Option Addr)(k:Nat) :
  (Builtin.append_ #[t,t] ty #[.slice B n c,.slice A 0 k]).run P w=.ok (.slice B n c) w:=by
 have hf:(Builtin.firstCells i.size 0 (.slice A 0 k)).run P w=.ok #[] w:=by
  cases A with
  | none=>simp[Builtin.firstCells]
  | some a=>simp[Builtin.firstCells,loadCells,loadCellsFrom]
 cases B with
 | none=>simp[Builtin.append_,run_underlying ht,sizeOf,typeInfo,hi,Builtin.lenOf,hn,hf]
 | some b=>simp[Builtin.append_,run_underlying ht,sizeOf,typeInfo,hi,Builtin.lenOf,hn,hf,storeCells]
theorem vU{t ty e tt:Nat}{i:TypeInfo}(ht:P.underlying t=some (.slice e))(hi:P.info? e=some i)(b sLen sCap:Nat)(cur:Array Value)(hg:w.heap[b]?=some (.cells cur tt (0,0)))
  (a:Addr) (m c:Nat) (news:List Value) (hl:news.length=m*i.size) (hnews:∀j u,news[j]?=some u→w.cell? (a.add j)=some u) (h1:∀u∈news,u.oneCell'=true)
  (hroom:sLen+m≤sCap) (hfit:sLen*i.size+news.length≤cur.size) :
  (Builtin.append_ #[t,t] ty #[.slice (some ⟨b,0,none⟩) sLen sCap,.slice (some a) m c]).run P w =
   .ok (.slice (some ⟨b,0,none⟩) (sLen+m) sCap) (w.setRow b (cur.toList.take (sLen*i.size)++news++cur.toList.drop (sLen*i.size+news.length)).toArray):=by
 have hf:=run_firstCells_some (P:=P) w i.size m a m c news hl hnews;have hst:=run_storeCells_at P b (sLen*i.size) tt news 0 cur w hg (by simpa using hfit) h1
 simp only[Nat.add_zero]at hst;simp[Builtin.append_,run_underlying ht,sizeOf,typeInfo,hi,Builtin.lenOf,hroom,hf,dZ,hst]
theorem wa{t e ty:Nat}{i j:TI}{et:Ty}{x y:SV}{X Y:Value}(ht:aC P t i)(hu:i.bD=.slice e)(he:aC P e j)(hty:j.ty=some et)(M:Mem mt g H w.heap)(hm:∀b,w.heap.size≤b→mt b)(hf:∀n,base≤n→n<base+keys→g.φ n=none)
  (hx:aV g w.heap x X) (hy:aV g w.heap y Y) (h:(appendM et j.bytes x y).eval base H fp=some (v,H',fp')):jL P mt g H' w base v (Builtin.append_ #[t,t] ty #[X,Y]):=by
 obtain⟨info,d,z,h1,h2,h3,h4,h5,h6,h7⟩:=he.get;obtain⟨zv,zs⟩:=tg he hty;have hsz:info.size=et.size:=by rw[h2,zs]
 have hzs:z.cells.size=info.size:=by
  have:=congrArg List.length h5;rw[List.length_map,he.ym]at this;rw[h2];simpa using this
 have hut:=gT ht hu;have hfr:=hf (base+0) (by omega) (by have:=fP;omega)
 have lim:∀k:Nat,k≤aB j.bytes→k*info.bytes≤140737488355328∧k≤140737488355328:=fun k hk=>by
  rw[h3];have h8:140737488355328/j.bytes*j.bytes≤140737488355328:=Nat.div_mul_le_self _ _;exact⟨Nat.le_trans (Nat.mul_le_mul_right _ hk) h8,Nat.le_trans hk (Nat.div_le_self _ _)⟩
 unfold appendM at h;rw[MA.eval_bind]at h;cases hmore:(moreM et y).eval base H fp with
 | none=>rw[hmore]at h;cases h
 | some p =>
  obtain⟨more,H1,fp1⟩:=p;rw[hmore]at h
  simp only at h
  obtain⟨rfl,A,c,rfl,hA⟩:=yX M hy hmore;split at h
  · -- onto a row of the call's own
   rename_i n;obtain⟨Q,hQ,rfl⟩:=(hx:VR g w.heap (.own n) X);obtain⟨o,ho,h⟩:=dw h;obtain⟨Q',hQ',hO⟩:=M.obj n o ho;rw[hQ]at hQ';cases hQ';split at h
   ·rename_i e' l
    split at h
    ·rename_i q
     subst q;rcases aW h with ⟨hr,h⟩ | ⟨_,h⟩
     ·simp only[decide_eq_true_eq]at hr
      obtain⟨_,h⟩:=pC h;obtain⟨fp2,hno,hs,h⟩:=gI (kC h);obtain⟨rfl,rfl⟩:=c7 h;have hO':cr g w.heap Q e' l:=hO;obtain⟨a1,a2,a3,a4⟩:=hO';obtain⟨lb,l63⟩:=lim _ hr
      by_cases hm0:more=[]
      · -- nothing comes
       subst hm0;refine⟨_,w,lK hut h1 Q.base Q.len Q.cap a3 A c,?_⟩;refine aY.move (Q':=Q) M ho hQ rfl rfl (fun _ h=>h) hfr hs (fun _ _=>rfl) rfl rfl rfl rfl (fun st=>?_) ⟨Q,cj g _ Q,rfl⟩
       have:fk (dJ g (base+0) Q) w.heap Q (.arr e' l):=hO.aL st fun _ _=>rfl
       simpa using this
      ·obtain⟨ba,oa,us,rfl,hcell,hR⟩:=hA hm0
       have hmpos:0<more.length:=List.length_pos_iff.2 hm0;have hul:=RdL.length more us hR;have hul':us.length=more.length*info.size:=by rw[hsz];exact hul
       have hcell':∀q u,us[q]?=some u→w.cell? ((⟨ba,oa,none⟩:Addr).add q)=some u:=fun q u hu=>by rw[dZ];exact hcell q u hu
       by_cases hroom:Q.len+more.length≤Q.cap
       · -- there is room
        cases hb:Q.bJ with
        | none=>rw[hb]at a4;omega
        | some b =>
         rw[hb]at a4;obtain⟨a5,vs,tt,olds,rest,a6,a7,a8,a9⟩:=a4;have hol:=RdL.length l olds a8;have hvs:vs.size=vs.toList.length:=by simp
         have hfit:Q.len*info.size+us.length≤vs.size:=by
          rw[hul',←Nat.add_mul];refine Nat.le_trans (Nat.mul_le_mul_right _ hroom) ?_;rw[hsz,←a2];exact a9
         have hrun:=vU (P:=P) (ty:=ty) hut h1 b Q.len Q.cap vs a6 ⟨ba,oa,none⟩ more.length c us hul' hcell' (RdL.one more us hR) hroom hfit;rw[a5]
         let Q':Pl:=⟨some b,some ⟨b,0,none⟩,Q.len+more.length,Q.cap,Q.size⟩
         refine⟨_,_,hrun,?_⟩;refine aY.move (Q':=Q') M ho hQ rfl rfl (fun c hc=>by rw[hb];exact hc) hfr hs (fun c hc=>setRow_other fun e=>hc (by rw[hb,e])) (by simp) rfl rfl rfl (fun st=>?_) ⟨Q',cj g _ Q',rfl⟩
         have hlo:Q.len*info.size=olds.length:=by rw[hol,←a1,hsz]
         refine⟨by simp[Q',a1],a2,hroom,rfl,_,tt,olds++us,vs.toList.drop (Q.len*info.size+us.length),setRow_heap a6,?_,RdL.mono (fun x vs=>Rd.aL st.ro st.hp e' x vs) _ _ (RdL.append l more olds us a8 hR),?_⟩
         ·rw[List.toList_toArray,hlo,a7,List.take_left]
         ·show Q.cap*Q.size≤_
          have:(vs.toList.take (Q.len*info.size)++us++vs.toList.drop (Q.len*info.size+us.length)).toArray.size=vs.size:=by
           simp only[List.size_toArray,List.length_append,List.length_take,List.length_drop];omega
          rw[this];exact a9
       · -- it grows
        have M1:=M.del n;have hneed:Q.cap<Q.len+more.length:=by omega
        have hlb:(Q.len+more.length)*info.bytes≤140737488355328:=by rw[a1];exact lb
        cases hb:Q.bJ with
        | none =>
         rw[hb]at a4;obtain⟨b1,b2,b3⟩:=a4;have hl0:l=[]:=List.length_eq_zero_iff.1 (by omega)
         subst hl0;rw[b1,b2,b3];simp only[List.length_nil,Nat.zero_add]at lb;have hrun:=run_append_nil (P:=P) w t ty e info z hut h1 h4 ⟨ba,oa,none⟩ more.length c us hul' hcell' hmpos (by omega) (by omega)
         let Q':Pl:=⟨some w.heap.size,some ⟨w.heap.size,0,none⟩,more.length,grownCap w more.length 0 e,e'.size⟩
         have hcap:more.length≤grownCap w more.length 0 e:=Nat.le_add_right _ _;refine⟨_,_,hrun,?_⟩;have st:cA g w.heap (dJ g (base+0) Q') (w.heap.push (.cells (us.toArray++Builtin.zeroCells z.cells (grownCap w more.length 0 e-more.length)) e)):=⟨fun _ h=>h,fun b hb=>dW _ _ _ (M.ro b hb),cy hfr⟩
         refine aY.new (Q:=Q') M1 hm rfl rfl rfl rfl hfr hs rfl rfl ?_ ⟨Q',cj g _ Q',rfl⟩;refine⟨by simp[Q'],rfl,hcap,rfl,_,e,us,(Builtin.zeroCells z.cells (grownCap w more.length 0 e-more.length)).toList,fN _ _,by simp,RdL.mono (fun x vs=>Rd.aL st.ro st.hp e' x vs) _ _ hR,?_⟩
         show grownCap w more.length 0 e*e'.size≤_;rw[Array.size_append,size_zeroCells,hzs,hsz,List.size_toArray,hul,←Nat.add_mul];exact Nat.mul_le_mul_right _ (by omega)
        | some b =>
         rw[hb]at a4;obtain⟨a5,vs,tt,olds,rest,a6,a7,a8,a9⟩:=a4;have hol:=RdL.length l olds a8;rw[a5];have hrun:=run_append_grow (P:=P) w t ty e info z hut h1 h4 ⟨b,0,none⟩ Q.len Q.cap olds (by rw[hol,←a1,hsz]) (fun q u hq=>by rw[dZ,dV a6,Nat.zero_add,a7,List.getElem?_append_left (List.getElem?_eq_some_iff.1 hq).1];exact hq)
          ⟨ba,oa,none⟩ more.length c us hul' hcell' hneed (by rw[a1];omega) (growslice_fits hneed hlb)
         let Q':Pl:=⟨some w.heap.size,some ⟨w.heap.size,0,none⟩,Q.len+more.length,grownCap w (Q.len+more.length) Q.cap e,e'.size⟩
         have hcap:Q.len+more.length≤grownCap w (Q.len+more.length) Q.cap e:=Nat.le_add_right _ _;refine⟨_,_,hrun,?_⟩;have st:cA g w.heap (dJ g (base+0) Q') (w.heap.push (.cells (olds.toArray++us.toArray++Builtin.zeroCells z.cells (grownCap w (Q.len+more.length) Q.cap e-(Q.len+more.length))) e)):=⟨fun _ h=>h,fun b hb=>dW _ _ _ (M.ro b hb),cy hfr⟩
         refine aY.new (Q:=Q') M1 hm rfl rfl rfl rfl hfr hs rfl rfl ?_ ⟨Q',cj g _ Q',rfl⟩;refine⟨by simp[Q',a1],rfl,hcap,rfl,_,e,olds++us,(Builtin.zeroCells z.cells (grownCap w (Q.len+more.length) Q.cap e-(Q.len+more.length))).toList,fN _ _,by simp,RdL.mono (fun x vs=>Rd.aL st.ro st.hp e' x vs) _ _ (RdL.append l more olds us a8 hR),?_⟩
         show grownCap w (Q.len+more.length) Q.cap e*e'.size≤_;have e1:olds.length=Q.len*e'.size:=by rw[hol,a1]
         rw[Array.size_append,Array.size_append,size_zeroCells,hzs,hsz,List.size_toArray,List.size_toArray,hul,e1,←Nat.add_mul,←Nat.add_mul];exact Nat.mul_le_mul_right _ (by omega)
     ·exact(aj h).elim
    ·exact(aj h).elim
   ·exact(aj h).elim
  · -- onto nothing
   obtain rfl:X=_:=hx;rcases aW h with ⟨hr,h⟩ | ⟨_,h⟩
   ·simp only[decide_eq_true_eq]at hr
    obtain⟨fp2,hno,hs,h⟩:=gI (kC h);obtain⟨rfl,rfl⟩:=c7 h;obtain⟨lb,l63⟩:=lim _ hr
    by_cases hm0:more=[]
    ·subst hm0
     let Q:Pl:=⟨none,none,0,0,et.size⟩
     refine⟨_,w,lK hut h1 none 0 0 (Nat.le_refl _) A c,?_⟩;exact aY.bare (Q:=Q) M rfl rfl rfl rfl hfr hs rfl rfl ⟨rfl,rfl,Nat.le_refl _,rfl,rfl,rfl⟩ ⟨Q,cj g _ Q,rfl⟩
    ·obtain⟨ba,oa,us,rfl,hcell,hR⟩:=hA hm0
     have hmpos:0<more.length:=List.length_pos_iff.2 hm0;have hul:=RdL.length more us hR;have hul':us.length=more.length*info.size:=by rw[hsz];exact hul
     have hcell':∀q u,us[q]?=some u→w.cell? ((⟨ba,oa,none⟩:Addr).add q)=some u:=fun q u hu=>by rw[dZ];exact hcell q u hu
     have hrun:=run_append_nil (P:=P) w t ty e info z hut h1 h4 ⟨ba,oa,none⟩ more.length c us hul' hcell' hmpos (by omega) (by omega)
     let Q:Pl:=⟨some w.heap.size,some ⟨w.heap.size,0,none⟩,more.length,grownCap w more.length 0 e,et.size⟩
     have hcap:more.length≤grownCap w more.length 0 e:=Nat.le_add_right _ _;refine⟨_,_,hrun,?_⟩;have st:cA g w.heap (dJ g (base+0) Q) (w.heap.push (.cells (us.toArray++Builtin.zeroCells z.cells (grownCap w more.length 0 e-more.length)) e)):=⟨fun _ h=>h,fun b hb=>dW _ _ _ (M.ro b hb),cy hfr⟩
     refine aY.new (Q:=Q) M hm rfl rfl rfl rfl hfr hs rfl rfl ?_ ⟨Q,cj g _ Q,rfl⟩;refine⟨rfl,rfl,hcap,rfl,_,e,us,(Builtin.zeroCells z.cells (grownCap w more.length 0 e-more.length)).toList,fN _ _,by simp,RdL.mono (fun x vs=>Rd.aL st.ro st.hp et x vs) _ _ hR,?_⟩
     show grownCap w more.length 0 e*et.size≤_;rw[Array.size_append,size_zeroCells,hzs,hsz,List.size_toArray,hul,←Nat.add_mul];exact Nat.mul_le_mul_right _ (by omega)
   ·exact(aj h).elim
  ·exact(aj h).elim
theorem Ck{t ty:Nat}{i:TI}{e:Nat}{x:SV}{X:Value}(ht:aC P t i)(hu:i.bD=.slice e)(hx:aV g w.heap x X)(h:(capM x).eval base H fp=some (v,H',fp')):bU P g H H' w v (Builtin.cap_ #[t] ty #[X]):=by
 unfold capM at h;split at h
 ·obtain rfl:X=_:=hx
  exact ar h (by simp[Builtin.cap_,run_underlying (gT ht hu),goInt]) rfl
 ·exact(aj h).elim
theorem qk{t t' e ty:Nat}{i i' j:TI}{et:Ty}{x y:SV}{X Y:Value}(ht:aC P t i)(hu:i.bD=.slice e)(ht':aC P t' i')(hu':i'.bD=.int .i64)(he:aC P e j)(hty:j.ty=some et)(M:Mem mt g H w.heap)(hm:∀b,w.heap.size≤b→mt b)(hf:∀n,base≤n→n<base+keys→g.φ n=none)
  (hx:aV g w.heap x X) (hy:aV g w.heap y Y) (h:(appendMakeM et j.bytes x y).eval base H fp=some (v,H',fp')):jL P mt g H' w base v (Builtin.append_ #[t,t'] ty #[X,Y]):=by
 obtain⟨info,d,z,h1,h2,h3,h4,h5,h6,h7⟩:=he.get;obtain⟨zv,zs⟩:=tg he hty;have hsz:info.size=et.size:=by rw[h2,zs]
 have hzs:z.cells.size=info.size:=by
  have:=congrArg List.length h5;rw[List.length_map,he.ym]at this;rw[h2];simpa using this
 have hut:=gT ht hu;have hfr:=hf (base+0) (by omega) (by have:=fP;omega)
 have hint:P.underlying t'=some (.int .i64):=by
  obtain⟨d,hd,hu2⟩:=ck ht';rw[hu']at hu2;cases d<;>first | (cases hu2;done) | (injection hu2 with hu2;subst hu2)
  exact hd
 unfold appendMakeM at h;split at h
 ·rename_i n
  obtain rfl:X=_:=hx;obtain rfl:Y=_:=hy;rcases aW h with ⟨hr,h⟩ | ⟨_,h⟩
  ·simp only[decide_eq_true_eq]at hr
   obtain⟨n0,nl⟩:=hr;obtain⟨fp2,ho,hs,h⟩:=gI (kC h);obtain⟨rfl,rfl⟩:=c7 h;have hk:n=(n.toNat:Int):=by omega
   have hlb:n.toNat*info.bytes≤140737488355328:=by
    rw[h3];exact Nat.le_trans (Nat.mul_le_mul_right _ (show n.toNat≤140737488355328/j.bytes by unfold aB at nl;omega)) (Nat.div_mul_le_self _ _)
   have h63:n.toNat≤140737488355328:=Nat.le_trans (show n.toNat≤140737488355328/j.bytes by unfold aB at nl;omega) (Nat.div_le_self _ _)
   have hrun:=Go.Lib.run_append_grow_zeros (P:=P) w t t' ty e info z .i64 .i64 hut hint h1 h4 none 0 0 [] (run_firstCells_none w.drew info.size 0 0 0) n.toNat (by omega) (by rw[hsz];exact Ty.size_pos et) (by omega) (by omega) (by omega) (growslice_fits (by omega) (by rw[Nat.zero_add];exact hlb))
   rw[Nat.zero_add,←hk]at hrun
   let Q:Pl:=⟨some w.heap.size,some ⟨w.heap.size,0,none⟩,n.toNat,grownCap w n.toNat 0 e,et.size⟩
   have hcap:n.toNat≤grownCap w n.toNat 0 e:=Nat.le_add_right _ _;refine⟨_,_,hrun,?_⟩;have st:cA g w.heap (dJ g (base+0) Q) (w.heap.push (.cells (([]:List Value).toArray++Builtin.zeroCells z.cells n.toNat++Builtin.zeroCells z.cells (grownCap w n.toNat 0 e-n.toNat)) e)):=⟨fun _ h=>h,fun b hb=>dW _ _ _ (M.ro b hb),cy hfr⟩
   have hR:Rd g.ro w.heap et et.dh z.cells.toList:=by rw[h5,←zv];exact Rd.dh _ _ et
   refine aY.new (Q:=Q) M hm rfl rfl rfl rfl hfr hs rfl rfl ?_ ⟨Q,cj g _ Q,rfl⟩;obtain⟨us,rest,k3,k4⟩:=vm (n:=n.toNat) (c:=n.toNat) hR (Nat.le_refl _);refine⟨by simp[Q],rfl,hcap,rfl,_,e,us,rest++(Builtin.zeroCells z.cells (grownCap w n.toNat 0 e-n.toNat)).toList,fN _ _,?_,RdL.mono (fun x vs=>Rd.aL st.ro st.hp et x vs) _ _ k4,?_⟩
   ·rw[Array.toList_append,Array.toList_append,←List.append_assoc,←k3]
    rfl
   ·show grownCap w n.toNat 0 e*et.size≤_
    rw[Array.size_append,Array.size_append,size_zeroCells,size_zeroCells,hzs,hsz,List.size_toArray,List.length_nil,Nat.zero_add,←Nat.add_mul];exact Nat.mul_le_mul_right _ (by omega)
  ·exact(aj h).elim
 ·exact(aj h).elim
theorem BG{t e:Nat}{i j:TI}{x:SV}{X:Value}{lo hi:Option SV}{X1 X2:Option Value}(ht:aC P t i)(hu:i.bD=.slice e)(he:aC P e j)(M:Mem mt g H w.heap)(hf:∀n,base≤n→n<base+keys→g.φ n=none)(hx:aV g w.heap x X)
  (h1:match lo,X1 with | none,none=>True | some y,some Y=>aV g w.heap y Y | _,_=>False) (h2:match hi,X2 with | none,none=>True | some y,some Y=>aV g w.heap y Y | _,_=>False)
  (h:(cutM j.size x lo hi).eval base H fp=some (v,H',fp')):jL P mt g H' w base v (Instr.sliceAt t X X1 X2 none):=by
 have b2:∀{a d:Int},bnd d hi=some a→(X2=none∧a=d)∨∃k,X2=some (.int k a):=fun ha=>(jV h2 ha).imp (fun q=>⟨q.2.1,q.2.2⟩) id
 have hfr:=hf (base+0) (by omega) (by have:=fP;omega)
 unfold cutM at h;split at h
 ·exact(aj h).elim
 ·have hX1:X1=none:=by
   cases X1 with
   | none=>rfl
   | some _=>exact h1.elim
  split at h
  ·obtain rfl:X=_:=hx
   split at h
   ·rename_i b hb
    rcases aW h with ⟨hr,h'⟩ | ⟨_,h⟩
    ·simp only[decide_eq_true_eq]at hr
     subst hr;obtain⟨rfl,rfl⟩:=c7 h';have hrun:=jq (P:=P) (w:=w) (A:=none) (len:=0) (cap:=0) (X1:=X1) (X2:=X2) (a:=0) (b:=0) ht hu he ⟨Int.le_refl _,Int.le_refl _,Int.le_refl _⟩ (Nat.le_refl _) (.inl ⟨hX1,rfl⟩) (b2 hb);exact⟨_,w,hrun,aY.same M (by show sliced none 0 0 0 j.size=_;simp[sliced])⟩
    ·exact(aj h).elim
   ·exact(aj h).elim
  ·rename_i n
   obtain⟨Q,hQ,rfl⟩:=(hx:VR g w.heap (.own n) X);obtain⟨o,ho,h⟩:=dw h;obtain⟨Q',hQ',hO⟩:=M.obj n o ho;rw[hQ]at hQ';cases hQ';split at h
   ·rename_i q l
    have hO':cr g w.heap Q q l:=hO;obtain⟨a1,a2,a3,a4⟩:=hO';split at h
    ·rename_i b hb
     cases hq:Nat.beq q.size j.size with
     | false=>rw[hq]at h;exact(aj h).elim
     | true =>
      rw[hq]at h;rcases aW h with ⟨hr,h⟩ | ⟨_,h⟩
      ·simp only[decide_eq_true_eq]at hr
       obtain⟨_,h⟩:=pC h;obtain⟨fp2,hno,hs,h⟩:=gI (kC h);obtain⟨rfl,rfl⟩:=c7 h;have hrun:=jq (P:=P) (w:=w) (A:=Q.base) (len:=Q.len) (cap:=Q.cap) (X1:=X1) (X2:=X2) (a:=0) (b:=b) ht hu he ⟨Int.le_refl _,hr.1,by omega⟩ a3 (.inl ⟨hX1,rfl⟩) ((b2 hb).imp (fun z=>⟨z.1,by rw[z.2,a1]⟩) id)
       have hbl:b.toNat≤Q.len:=by omega
       let Q':Pl:=⟨Q.bJ,Q.base,b.toNat,Q.cap,Q.size⟩
       have hsl:sliced Q.base (0:Int).toNat b.toNat Q.cap j.size=.slice Q.base b.toNat Q.cap:=by
        show Value.slice (if Q.cap=0 then Q.base else Q.base.map (·.add (0*j.size))) (b.toNat-0) (Q.cap-0)=_
        have:Q.base.map (·.add (0*j.size))=Q.base:=by
         cases hB:Q.bJ with
         | none=>rw[hB]at a4;rw[a4.2.2];rfl
         | some bk=>rw[hB]at a4;rw[a4.1];simp[dZ]
        rw[this];simp
       rw[hsl]at hrun;refine⟨_,w,hrun,?_⟩;refine aY.move (Q':=Q') M ho hQ rfl rfl (fun _ h=>h) hfr hs (fun _ _=>rfl) rfl rfl rfl rfl (fun st=>?_) ⟨Q',cj g _ Q',rfl⟩
       refine⟨by show b.toNat=_;rw[List.length_take];omega,a2,Nat.le_trans hbl a3,?_⟩
       show (match Q.bJ with | none=>_ | some bk=>_)
       cases hB:Q.bJ with
       | none=>rw[hB]at a4;obtain⟨c1,c2,c3⟩:=a4;exact⟨by show b.toNat=0;omega,c2,c3⟩
       | some bk =>
        rw[hB]at a4;obtain⟨a5,vs,tt,us,rest,a6,a7,a8,a9⟩:=a4;have:=RdL.take_drop l us 0 b.toNat a8 (by omega)
        simp only[List.drop_zero,Nat.zero_mul]at this;refine⟨a5,vs,tt,us.take (b.toNat*q.size),us.drop (b.toNat*q.size)++rest,a6,by rw[←List.append_assoc,List.take_append_drop,a7],RdL.mono (fun x vs=>Rd.aL st.ro st.hp q x vs) _ _ this,a9⟩
      ·exact(aj h).elim
    ·exact(aj h).elim
   ·exact(aj h).elim
  ·exact(aj h).elim
end
end Go.Proofs.YthdgahpomhnidaaGreat.Mx
namespace Go.Proofs.YthdgahpomhnidaaGreat.Mx
open Go
universe u
abbrev RH:=Nat→Option Obj
structure DS.le (d d':DS):Prop where
 ax:∀j x,aget d.ax j=some x→aget d'.ax j=some x
 cB:∀n,n∈d.cB→n∈d'.cB
theorem DS.le.refl(d:DS):d.le d:=⟨fun _ _ h=>h,fun _ h=>h⟩
theorem DS.le.trans{a b c:DS}(h:a.le b)(k:b.le c):a.le c:=⟨fun j x h'=>k.ax j x (h.ax j x h'),fun n h'=>k.cB n (h.cB n h')⟩
def DS.inj(d:DS):Prop:=(∀i j n,aget d.ax i=some (some n)→aget d.ax j=some (some n)→i=j)∧∀n,ahas d.ax n=true↔∃j,aget d.ax j=some (some n)
def DS.reads(d:DS)(h:RH):Prop:=∀n,n∈d.cB→∃o,h n=some o
theorem bH(k:Nat)(o:Option Nat)(l:List (Nat×Option Nat))(n:Nat):aget ((k,o)::l) n=if k=n then some o else aget l n:=by
 by_cases e:k=n
 ·subst e;simp only[aget,bT,if_true]
 ·simp only[aget,fZ e,if_neg e]
theorem DS.Cz{d:DS}{j n:Nat}(hi:d.inj)(hj:aget d.ax j=none)(hn:ahas d.ax n=false):DS.inj ⟨(j,some n)::d.ax,d.cB⟩:=by
 have hno:∀i,aget d.ax i≠some (some n):=fun i h=>by
  have:=(hi.2 n).2 ⟨i,h⟩;rw[hn]at this;cases this
 constructor
 ·intro a b m ha hb
  simp only[bH]at ha hb
  by_cases h1:j=a
  ·by_cases h2:j=b
   ·omega
   ·rw[if_pos h1]at ha;rw[if_neg h2]at hb
    cases ha;exact absurd hb (hno b)
  ·by_cases h2:j=b
   ·rw[if_neg h1]at ha;rw[if_pos h2]at hb
    cases hb;exact absurd ha (hno a)
   ·rw[if_neg h1]at ha;rw[if_neg h2]at hb
    exact hi.1 a b m ha hb
 ·intro m
  by_cases e:n=m
  ·subst e
   simp only[ahas,bT,true_iff];exact⟨j,by rw[bH,if_pos rfl]⟩
  ·simp only[ahas,fZ e]
   rw[hi.2 m];constructor
   ·rintro ⟨i,hi'⟩
    refine⟨i,?_⟩;rw[bH,if_neg]
    ·exact hi'
    ·rintro rfl;rw[hj]at hi';cases hi'
   ·rintro ⟨i,hi'⟩
    rw[bH]at hi'
    by_cases h1:j=i
    ·rw[if_pos h1]at hi';cases hi';exact absurd rfl e
    ·rw[if_neg h1]at hi';exact⟨i,hi'⟩
theorem DS.Bc{d:DS}{j:Nat}(hi:d.inj)(hj:aget d.ax j=none):DS.inj ⟨(j,none)::d.ax,d.cB⟩:=by
 have back:∀a m,aget ((j,none)::d.ax) a=some (some m)→aget d.ax a=some (some m):=fun a m ha=>by
  rw[bH]at ha
  by_cases h1:j=a
  ·rw[if_pos h1]at ha;cases ha
  ·rw[if_neg h1]at ha;exact ha
 constructor
 ·exact fun a b m ha hb=>hi.1 a b m (back a m ha) (back b m hb)
 ·intro m
  simp only[ahas];rw[hi.2 m];constructor
  ·rintro ⟨i,hi'⟩
   refine⟨i,?_⟩;rw[bH,if_neg]
   ·exact hi'
   ·rintro rfl;rw[hj]at hi';cases hi'
  ·rintro ⟨i,hi'⟩;exact⟨i,back i m hi'⟩
structure DS.bG (h:RH) (d:DS):Prop where
 inj:d.inj
 qv:d.reads h
theorem iA{h:RH}{B:Type u}{d:DS}{j n:Nat}{K:DS→Option B}{r:B}(g:d.bG h)(hk:bindKey d j n K=some r):∃d',K d'=some r∧d.le d'∧d'.bG h∧aget d'.ax j=some (some n):=by
 unfold bindKey at hk;split at hk
 ·rename_i m hm
  cases hb:Nat.beq m n with
  | false=>rw[hb]at hk;cases hk
  | true=>rw[hb]at hk;exact⟨d,hk,DS.le.refl d,g,by rw[hm,beq_eq hb]⟩
 ·cases hk
 ·rename_i hj
  cases hb:ahas d.ax n with
  | true=>rw[hb]at hk;cases hk
  | false =>
   rw[hb]at hk;refine⟨_,hk,⟨fun i x hi=>?_,fun _ h=>h⟩,⟨DS.Cz g.inj hj hb,g.qv⟩,by rw[bH,if_pos rfl]⟩
   rw[bH,if_neg]
   ·exact hi
   ·rintro rfl;rw[hj]at hi;cases hi
theorem mG{h:RH}{B:Type u}:∀(js ns:List Nat) (d:DS) (K:DS→Option B) (r:B),d.bG h→lU d js ns K=some r→∃d',K d'=some r∧d.le d'∧d'.bG h∧All2 (fun j n=>aget d'.ax j=some (some n)) js ns
 | [],[],d,K,r,g,hk=>⟨d,hk,DS.le.refl d,g,trivial⟩
 | j::js,n::ns,d,K,r,g,hk=>by
  obtain⟨d1,h1,h2,h3,h4⟩:=iA g (show bindKey d j n (fun d'=>lU d' js ns K)=some r from hk)
  obtain⟨d2,k1,k2,k3,k4⟩:=mG js ns d1 K r h3 h1;exact⟨d2,k1,h2.trans k2,k3,k2.ax j _ h4,k4⟩
 | [],_::_,_,_,_,_,hk=>by cases hk
 | _::_,[],_,_,_,_,hk=>by cases hk
theorem mj{h:RH}{e:Ty}{n:Nat}{l:List e.T}(hr:rowOf h e n=some l):h n=some (.arr e l)∨h n=some (.bF e l):=by
 unfold rowOf at hr;split at hr
 ·split at hr
  ·rename_i q;subst q
   simp only[Option.some.injEq]at hr;subst hr;exact .inl (by assumption)
  ·cases hr
 ·split at hr
  ·rename_i q;subst q
   simp only[Option.some.injEq]at hr;subst hr;exact .inr (by assumption)
  ·cases hr
 ·cases hr
theorem qR{h:RH}{e:Ty}{n:Nat}{l:List e.T}(hr:rowOf h e n=some l):∃o,h n=some o:=by
 rcases mj hr with h | h
 ·exact⟨_,h⟩
 ·exact⟨_,h⟩
theorem vO{h:RH}{e:Ty}{n off len st lo hi:Nat}{l:List e.T}(hr:bsubOf h e n off len st lo hi=some l):∃o,h n=some o:=by
 unfold bsubOf at hr;split at hr
 ·exact⟨_,by assumption⟩
 ·cases hr
def bu(h:RH)(d:DS):CV→CV→Prop
 | .ptr j o,c=>∃n,aget d.ax j=some (some n)∧c=.ptr n o
 | .eptr j i o,c=>∃n,aget d.ax j=some (some n)∧c=.eptr n i o
 | .own j,c=>(∃n,aget d.ax j=some (some n)∧c=.own n)∨(aget d.ax j=some none∧c=.nils)
 | .fn f js,c=>∃ns,c=.fn f ns∧All2 (fun j n=>aget d.ax j=some (some n)) js ns
 | .row e l,c=>c=.row e l∨(l=[]∧c=.nils)∨(∃n,n∈d.cB∧rowOf h e n=some l∧c=.own n)∨(∃n lo hi l0,n∈d.cB∧rowOf h e n=some l0∧l=(l0.take hi).drop lo∧c=.sub n lo hi)∨(∃n off len st lo hi,n∈d.cB∧bsubOf h e n off len st lo hi=some l∧c=.bsub n off len st lo hi)
 | .rptr e l i off,c=>i=0∧off=0∧((∃x n ns,l=[x]∧c=.ptr n 0∧n∈d.cB∧(∀k,k∈ns→k∈d.cB)∧boxOf h e n=some (x,ns))∨∃l0 j,c=.rptr e l0 j 0∧l=[l0.getD j e.dh])
 | .dead,_=>True
 | .int k n,c=>c=.int k n
 | .bool b,c=>c=.bool b
 | .str s,c=>c=.str s
 | .fint n,c=>c=.fint n
 | .cint x y,c=>c=.cint x y
 | .nilp,c=>c=.nilp
 | .nilf,c=>c=.nilf
 | .nili,c=>c=.nili
 | .nils,c=>c=.nils
 | .dyn x,c=>c=.dyn x
 | _,_=>False
theorem bu.mono{h:RH}{d d':DS}(hd:d.le d'):∀{c c':CV},bu h d c c'→bu h d' c c'
 | .ptr _ _,_,⟨n,h1,h2⟩=>⟨n,hd.ax _ _ h1,h2⟩
 | .eptr _ _ _,_,⟨n,h1,h2⟩=>⟨n,hd.ax _ _ h1,h2⟩
 | .own _,_,h=>h.imp (fun⟨n,h1,h2⟩=>⟨n,hd.ax _ _ h1,h2⟩) fun⟨h1,h2⟩=>⟨hd.ax _ _ h1,h2⟩
 | .fn _ _,_,⟨ns,h1,h2⟩=>⟨ns,h1,All2.mono (fun _ _ q=>hd.ax _ _ q) _ _ h2⟩
 | .row _ _,_,h=>h.imp id (Or.imp id (Or.imp (fun⟨n,h1,h2⟩=>⟨n,hd.cB _ h1,h2⟩) (Or.imp (fun⟨n,lo,hi,l0,h1,h2⟩=>⟨n,lo,hi,l0,hd.cB _ h1,h2⟩) fun⟨n,off,len,st,lo,hi,h1,h2⟩=>⟨n,off,len,st,lo,hi,hd.cB _ h1,h2⟩)))
 | .dead,_,_=>trivial
 | .int _ _,_,h=>h
 | .bool _,_,h=>h
 | .str _,_,h=>h
 | .fint _,_,h=>h
 | .cint _ _,_,h=>h
 | .nilp,_,h=>h
 | .nilf,_,h=>h
 | .nili,_,h=>h
 | .nils,_,h=>h
 | .aptr _ _ _ _ _ _,_,h=>h.elim
 | .sub _ _ _,_,h=>h.elim
 | .bsub _ _ _ _ _ _,_,h=>h.elim
 | .rptr _ _ _ _,_,⟨h1,h2,h⟩=>⟨h1,h2,h.imp (fun⟨x,n,ns,a,b,c,e,f⟩=>⟨x,n,ns,a,b,hd.cB _ c,fun k hk=>hd.cB _ (e k hk),f⟩) id⟩
 | .ifc _ _ _,_,h=>h.elim
 | .dyn _,_,h=>h
def pQ{α β:Type}{γ:Type}(enc:{R:Type 1}→β→(γ→α→R)→R)(j2:{R:Type}→β→(γ→α→R)→R)(p:α→β)(c:γ):Prop :=
 (∀{R:Type 1} (y:α) (K:γ→α→R),enc (p y) K=K c y)∧∀{R:Type} (y:α) (K:γ→α→R),j2 (p y) K=K c y
theorem vY{h:RH}{c c':CV}{ns:List Nat}(hc:thawC h c=some (c',ns)):∀k,k∈ns→∃o,h k=some o:=by
 intro k hk;unfold thawC at hc;split at hc<;>(try split at hc)<;>first | (cases hc;done) | skip
 all_goals (simp only[Option.some.injEq,Prod.mk.injEq]at hc;obtain⟨_,rfl⟩:=hc)
 all_goals first | (cases hk;done) | (rw[List.mem_singleton.1 hk];exact⟨_,by assumption⟩)
theorem mQ{h:RH}:∀(cs:List CV) (cs':List CV) (ns:List Nat),thawCs h cs=some (cs',ns)→∀k,k∈ns→∃o,h k=some o
 | [],cs',ns,hc,k,hk=>by
  simp only[thawCs,Option.some.injEq,Prod.mk.injEq]at hc;rw[←hc.2]at hk;cases hk
 | c::cs,cs',ns,hc,k,hk=>by
  unfold thawCs at hc;split at hc
  ·rename_i c1 n1 h1
   split at hc
   ·rename_i c2 n2 h2
    simp only[Option.some.injEq,Prod.mk.injEq]at hc;rw[←hc.2]at hk;rcases List.mem_append.1 hk with hk | hk
    ·exact vY h1 k hk
    ·exact mQ cs c2 n2 h2 k hk
   ·cases hc
  ·cases hc
theorem wq{h:RH}{e:Ty}{n:Nat}{x:e.T}{ns:List Nat}(hx:boxOf h e n=some (x,ns)):(∃o,h n=some o)∧∀k,k∈ns→∃o,h k=some o:=by
 unfold boxOf at hx;split at hx
 ·rename_i cs hcs
  split at hx
  ·rename_i cs' ms hms
   split at hx
   ·simp only[Option.some.injEq,Prod.mk.injEq]at hx
    obtain⟨_,rfl⟩:=hx;exact⟨⟨_,hcs⟩,mQ cs cs' _ hms⟩
   ·cases hx
  ·cases hx
 ·cases hx
theorem CF.cV{α:Type}{R:Type u}{h:RH}{d:DS}{c:CF}{v:CV}{K:DS→(α→c.P α)→Option R}{r:R}(g:d.bG h)(hk:c.decK h d v K=some r) :
  ∃d' p cc,K d' p=some r∧d.le d'∧d'.bG h∧pQ (fun {R}=>c.bZ (R:=R)) (fun {R}=>c.bZ (R:=R)) p cc∧bu h d' cc v:=by
 unfold CF.decK at hk;split at hk
 ·rename_i k k' n _
  split at hk
  ·rename_i e;subst e;exact⟨d,_,.int _ n,hk,DS.le.refl d,g,⟨fun _ _=>rfl,fun _ _=>rfl⟩,rfl⟩
  ·cases hk
 ·rename_i b _;exact⟨d,_,.bool b,hk,DS.le.refl d,g,⟨fun _ _=>rfl,fun _ _=>rfl⟩,rfl⟩
 ·rename_i b _;exact⟨d,_,.str b,hk,DS.le.refl d,g,⟨fun _ _=>rfl,fun _ _=>rfl⟩,rfl⟩
 ·rename_i b _;exact⟨d,_,.fint b,hk,DS.le.refl d,g,⟨fun _ _=>rfl,fun _ _=>rfl⟩,rfl⟩
 ·rename_i a b _;exact⟨d,_,.cint a b,hk,DS.le.refl d,g,⟨fun _ _=>rfl,fun _ _=>rfl⟩,rfl⟩
 ·rename_i e e' l _
  split at hk
  ·rename_i q;subst q;exact⟨d,_,.row e' l,hk,DS.le.refl d,g,⟨fun _ _=>rfl,fun _ _=>rfl⟩,.inl rfl⟩
  ·cases hk
 ·rename_i e _;exact⟨d,_,.row e [],hk,DS.le.refl d,g,⟨fun _ _=>rfl,fun _ _=>rfl⟩,.inr (.inl ⟨rfl,rfl⟩)⟩
 ·rename_i e n off len st lo hi _
  split at hk
  ·rename_i l hl
   refine⟨_,_,.row e l,hk,⟨fun _ _ h=>h,fun _ h=>List.mem_cons_of_mem _ h⟩,⟨g.inj,fun m hm=>?_⟩,⟨fun _ _=>rfl,fun _ _=>rfl⟩,.inr (.inr (.inr (.inr ⟨n,off,len,st,lo,hi,List.mem_cons_self,hl,rfl⟩)))⟩
   rcases List.mem_cons.1 hm with rfl | hm
   ·exact vO hl
   ·exact g.qv m hm
  ·cases hk
 ·rename_i e n _
  split at hk
  ·rename_i l hl
   refine⟨_,_,.row e l,hk,⟨fun _ _ h=>h,fun _ h=>List.mem_cons_of_mem _ h⟩,⟨g.inj,fun m hm=>?_⟩,⟨fun _ _=>rfl,fun _ _=>rfl⟩,.inr (.inr (.inl ⟨n,List.mem_cons_self,hl,rfl⟩))⟩
   rcases List.mem_cons.1 hm with rfl | hm
   ·exact qR hl
   ·exact g.qv m hm
  ·cases hk
 ·rename_i e n lo hi _
  split at hk
  ·rename_i l hl
   refine⟨_,_,.row e ((l.take hi).drop lo),hk,⟨fun _ _ h=>h,fun _ h=>List.mem_cons_of_mem _ h⟩,⟨g.inj,fun m hm=>?_⟩,⟨fun _ _=>rfl,fun _ _=>rfl⟩,.inr (.inr (.inr (.inl ⟨n,lo,hi,l,List.mem_cons_self,hl,rfl,rfl⟩)))⟩
   rcases List.mem_cons.1 hm with rfl | hm
   ·exact qR hl
   ·exact g.qv m hm
  ·cases hk
 ·exact⟨d,_,.nilp,hk,DS.le.refl d,g,⟨fun _ _=>rfl,fun _ _=>rfl⟩,rfl⟩
 ·exact⟨d,_,.nilf,hk,DS.le.refl d,g,⟨fun _ _=>rfl,fun _ _=>rfl⟩,rfl⟩
 ·exact⟨d,_,.nili,hk,DS.le.refl d,g,⟨fun _ _=>rfl,fun _ _=>rfl⟩,rfl⟩
 ·exact⟨d,_,.nils,hk,DS.le.refl d,g,⟨fun _ _=>rfl,fun _ _=>rfl⟩,rfl⟩
 ·rename_i j n _
  obtain⟨d',h1,h2,h3,h4⟩:=iA g hk;exact⟨d',_,.own j,h1,h2,h3,⟨fun _ _=>rfl,fun _ _=>rfl⟩,.inl ⟨_,h4,rfl⟩⟩
 ·rename_i j _
  split at hk
  ·rename_i hj
   refine⟨_,_,.own j,hk,⟨fun i x hi=>?_,fun _ h=>h⟩,⟨DS.Bc g.inj hj,g.qv⟩,⟨fun _ _=>rfl,fun _ _=>rfl⟩,.inr ⟨by rw[bH,if_pos rfl],rfl⟩⟩
   rw[bH,if_neg]
   ·exact hi
   ·rintro rfl;rw[hj]at hi;cases hi
  ·cases hk
 ·rename_i j off n off' _
  cases hb:Nat.beq off off' with
  | false=>rw[hb]at hk;cases hk
  | true =>
   rw[hb]at hk;obtain⟨d',h1,h2,h3,h4⟩:=iA g hk;exact⟨d',_,.ptr j off,h1,h2,h3,⟨fun _ _=>rfl,fun _ _=>rfl⟩,⟨n,h4,by rw[beq_eq hb]⟩⟩
 ·rename_i j off n i off' _
  cases hb:Nat.beq off off' with
  | false=>rw[hb]at hk;cases hk
  | true =>
   rw[hb]at hk;obtain⟨d',h1,h2,h3,h4⟩:=iA g hk;exact⟨d',_,.eptr j i off,h1,h2,h3,⟨fun _ _=>rfl,fun _ _=>rfl⟩,⟨n,h4,by rw[beq_eq hb]⟩⟩
 ·rename_i f js f' ns _
  cases hb:Nat.beq f f' with
  | false=>rw[hb]at hk;cases hk
  | true =>
   rw[hb]at hk;obtain⟨d',h1,h2,h3,h4⟩:=mG js ns d _ r g hk;exact⟨d',_,.fn f js,h1,h2,h3,⟨fun _ _=>rfl,fun _ _=>rfl⟩,⟨ns,by rw[beq_eq hb],h4⟩⟩
 ·rename_i e n _
  split at hk
  ·rename_i x ns hx
   refine⟨_,_,.rptr e [x] 0 0,hk,⟨fun _ _ h=>h,fun _ h=>List.mem_cons_of_mem _ (List.mem_append_right _ h)⟩,⟨g.inj,fun m hm=>?_⟩,⟨fun _ _=>rfl,fun _ _=>rfl⟩,rfl,rfl,.inl ⟨x,n,ns,rfl,rfl,List.mem_cons_self,fun k hk=>List.mem_cons_of_mem _ (List.mem_append_left _ hk),hx⟩⟩
   obtain⟨h1,h2⟩:=wq hx;rcases List.mem_cons.1 hm with rfl | hm
   ·exact h1
   ·rcases List.mem_append.1 hm with hm | hm
    ·exact h2 m hm
    ·exact g.qv m hm
  ·cases hk
 ·rename_i e e' l i _
  split at hk
  ·rename_i q;subst q
   exact⟨d,_,.rptr e' [l.getD i e'.dh] 0 0,hk,DS.le.refl d,g,⟨fun _ _=>rfl,fun _ _=>rfl⟩,rfl,rfl,.inr ⟨l,i,rfl,rfl⟩⟩
  ·cases hk
 ·rename_i b _;exact⟨d,_,.dyn b,hk,DS.le.refl d,g,⟨fun _ _=>rfl,fun _ _=>rfl⟩,rfl⟩
 ·exact⟨d,_,.dead,hk,DS.le.refl d,g,⟨fun _ _=>rfl,fun _ _=>rfl⟩,trivial⟩
 ·cases hk
theorem k7{h:RH}{α:Type}{R:Type u}:∀(cs:List CF) (d:DS) (vs:List CV) (K:DS→(α→vq cs α)→Option R) (r:R),d.bG h→mV h cs d vs K=some r →
  ∃d' p ccs,K d' p=some r∧d.le d'∧d'.bG h∧pQ (fun {R}=>j9 (R:=R) cs) (fun {R}=>j9 (R:=R) cs) p ccs∧All2 (bu h d') ccs vs
 | [],d,[],K,r,g,hk=>⟨d,id,[],hk,DS.le.refl d,g,⟨fun _ _=>rfl,fun _ _=>rfl⟩,trivial⟩
 | c::cs,d,v::vs,K,r,g,hk=>by
  obtain⟨d1,p,cc,h1,h2,h3,h4,h5⟩:=CF.cV g (show c.decK h d v (fun d' p=>mV h cs d' vs fun d2 q=>K d2 fun y=>p (q y))=some r from hk)
  obtain⟨d2,q,ccs,k1,k2,k3,k4,k5⟩:=k7 cs d1 vs _ r h3 h1;refine⟨d2,_,cc::ccs,k1,h2.trans k2,k3,⟨fun y K'=>?_,fun y K'=>?_⟩,h5.mono k2,k5⟩
  ·exact(h4.1 (q y) _).trans (k4.1 y _)
  ·exact(h4.2 (q y) _).trans (k4.2 y _)
 | [],_,_::_,_,_,_,hk=>by cases hk
 | _::_,_,[],_,_,_,hk=>by cases hk
def jv(h:RH)(d:DS):AV→AV→Prop
 | .c x,.c y=>bu h d x y
 | .agg xs,.agg ys=>All2 (bu h d) xs ys
 | _,_=>False
theorem jv.mono{h:RH}{d d':DS}(hd:d.le d'):∀{c c':AV},jv h d c c'→jv h d' c c'
 | .c _,.c _,q=>bu.mono hd q
 | .agg _,.agg _,q=>All2.mono (fun _ _=>bu.mono hd) _ _ q
 | .c _,.agg _,q=>q.elim
 | .agg _,.c _,q=>q.elim
def mh(h:RH)(d:DS):Obj→Option Obj→Prop
 | .box cs,some (.box vs)=>All2 (bu h d) cs vs
 | .arr e l,some (.arr e' l')=>(⟨e,l⟩:(e:Ty)×List e.T)=⟨e',l'⟩
 | .arr e l,none=>l=[]
 | _,_=>False
theorem mh.mono{h:RH}{d d':DS}(hd:d.le d'):∀{c:Obj} {c':Option Obj},mh h d c c'→mh h d' c c'
 | .box _,some (.box _),q=>All2.mono (fun _ _=>bu.mono hd) _ _ q
 | .arr _ _,some (.arr _ _),q=>q
 | .arr _ _,none,q=>q
 | .box _,some (.arr _ _),q=>q.elim
 | .box _,some (.bF _ _),q=>q.elim
 | .box _,none,q=>q.elim
 | .arr _ _,some (.box _),q=>q.elim
 | .arr _ _,some (.bF _ _),q=>q.elim
 | .bF _ _,_,q=>q.elim
theorem AF.cV{α:Type}{R:Type u}{h:RH}{d:DS}:∀{a:AF} {v:AV} {K:DS→(α→a.P α)→Option R} {r:R},d.bG h→a.decK h d v K=some r →
  ∃d' p cc,K d' p=some r∧d.le d'∧d'.bG h∧pQ (fun {R}=>a.bZ (R:=R)) (fun {R}=>a.bZ (R:=R)) p cc∧jv h d' cc v
 | .c x,.c v,K,r,g,hk=>by
  obtain⟨d1,p,cc,h1,h2,h3,h4,h5⟩:=CF.cV g (show x.decK h d v K=some r from hk)
  exact⟨d1,p,.c cc,h1,h2,h3,⟨fun y K'=>h4.1 y _,fun y K'=>h4.2 y _⟩,h5⟩
 | .agg xs,.agg vs,K,r,g,hk=>by
  obtain⟨d1,p,cc,h1,h2,h3,h4,h5⟩:=k7 xs d vs K r g hk;exact⟨d1,p,.agg cc,h1,h2,h3,⟨fun y K'=>h4.1 y _,fun y K'=>h4.2 y _⟩,h5⟩
 | .c _,.agg _,_,_,_,hk=>by cases hk
 | .agg _,.c _,_,_,_,hk=>by cases hk
def uH:OF→Obj→Prop
 | .arr e,o=>∃l,o=.arr e l
 | .box _,o=>∃l,o=.box l
theorem OF.cV{α:Type}{R:Type u}{h:RH}{d:DS}{o:OF}{v:Option Obj}{K:DS→(α→o.P α)→Option R}{r:R}(g:d.bG h)(hk:o.decK h d v K=some r) :
  ∃d' p cc,K d' p=some r∧d.le d'∧d'.bG h∧pQ (fun {R}=>o.bZ (R:=R)) (fun {R}=>o.bZ (R:=R)) p cc∧mh h d' cc v∧uH o cc∧cc.dA=false:=by
 unfold OF.decK at hk;split at hk
 ·rename_i cs vs K'
  obtain⟨d1,p,cc,h1,h2,h3,h4,h5⟩:=k7 _ d _ K' r g hk;exact⟨d1,p,.box cc,h1,h2,h3,⟨fun y K'=>h4.1 y _,fun y K'=>h4.2 y _⟩,h5,⟨_,rfl⟩,rfl⟩
 ·rename_i e e' l _
  split at hk
  ·rename_i q;subst q
   exact⟨d,_,.arr e' l,hk,DS.le.refl d,g,⟨fun _ _=>rfl,fun _ _=>rfl⟩,rfl,⟨_,rfl⟩,rfl⟩
  ·cases hk
 ·rename_i e _;exact⟨d,_,.arr e [],hk,DS.le.refl d,g,⟨fun _ _=>rfl,fun _ _=>rfl⟩,rfl,⟨_,rfl⟩,rfl⟩
 ·cases hk
def o8(h:RH)(d:DS)(g:Nat→Option AV)(x:Nat×AF)(y:Nat×AV):Prop:=x.1=y.1∧∃a,g y.1=some a∧jv h d y.2 a
theorem o8.mono{h:RH}{d d':DS}{g:Nat→Option AV}(hd:d.le d'){x:Nat×AF}{y:Nat×AV}(q:o8 h d g x y):o8 h d' g x y:=⟨q.1,q.2.elim fun a k=>⟨a,k.1,k.2.mono hd⟩⟩
theorem oX{h:RH}{g:Nat→Option AV}{α:Type}{R:Type u}:∀(ss:List (Nat×AF)) (d:DS) (K:DS→(α→xd ss α)→Option R) (r:R),d.bG h→decSlK h g ss d K=some r →
  ∃d' p as,K d' p=some r∧d.le d'∧d'.bG h∧pQ (fun {R}=>lJ (R:=R) ss) (fun {R}=>lJ (R:=R) ss) p as∧All2 (o8 h d' g) ss as
 | [],d,K,r,gd,hk=>⟨d,id,[],hk,DS.le.refl d,gd,⟨fun _ _=>rfl,fun _ _=>rfl⟩,trivial⟩
 | s::ss,d,K,r,gd,hk=>by
  unfold decSlK at hk;split at hk
  ·rename_i a ha
   obtain⟨d1,p,cc,h1,h2,h3,h4,h5⟩:=AF.cV gd hk;obtain⟨d2,q,ccs,k1,k2,k3,k4,k5⟩:=oX ss d1 _ r h3 h1;refine⟨d2,_,(s.1,cc)::ccs,k1,h2.trans k2,k3,⟨fun y K'=>?_,fun y K'=>?_⟩,⟨rfl,a,ha,h5.mono k2⟩,k5⟩
   ·exact(h4.1 (q y) _).trans (k4.1 y _)
   ·exact(h4.2 (q y) _).trans (k4.2 y _)
  ·cases hk
def lY(h:RH)(d:DS)(x:Nat×OF)(y:Nat×Obj):Prop :=
 x.1=y.1∧y.2.dA=false∧uH x.2 y.2∧((∃n o,aget d.ax y.1=some (some n)∧h n=some o∧mh h d y.2 (some o))∨(aget d.ax y.1=some none∧mh h d y.2 none))
theorem lY.mono{h:RH}{d d':DS}(hd:d.le d'){x:Nat×OF}{y:Nat×Obj}(q:lY h d x y):lY h d' x y :=
 ⟨q.1,q.2.1,q.2.2.1,q.2.2.2.imp (fun⟨n,o,h1,h2,h3⟩=>⟨n,o,hd.ax _ _ h1,h2,h3.mono hd⟩) fun⟨h1,h2⟩=>⟨hd.ax _ _ h1,h2.mono hd⟩⟩
theorem oQ{h:RH}{α:Type}{R:Type u}:∀(ss:List (Nat×OF)) (d:DS) (K:DS→(α→xF ss α)→Option R) (r:R),d.bG h→np h ss d K=some r →
  ∃d' p os,K d' p=some r∧d.le d'∧d'.bG h∧pQ (fun {R}=>jn (R:=R) ss) (fun {R}=>jn (R:=R) ss) p os∧All2 (lY h d') ss os
 | [],d,K,r,gd,hk=>⟨d,id,[],hk,DS.le.refl d,gd,⟨fun _ _=>rfl,fun _ _=>rfl⟩,trivial⟩
 | s::ss,d,K,r,gd,hk=>by
  have fin:∀(v:Option Obj),s.2.decK h d v (fun d' p=>np h ss d' fun d2 q=>K d2 fun y=>p (q y))=some r →
    (∀d1 cc,d.le d1→mh h d1 cc v→(∃n o,aget d1.ax s.1=some (some n)∧h n=some o∧mh h d1 cc (some o))∨(aget d1.ax s.1=some none∧mh h d1 cc none)) →
    ∃d' p os,K d' p=some r∧d.le d'∧d'.bG h∧pQ (fun {R}=>jn (R:=R) (s::ss)) (fun {R}=>jn (R:=R) (s::ss)) p os∧All2 (lY h d') (s::ss) os:=fun v hv hrel=>by
   obtain⟨d1,p,cc,h1,h2,h3,h4,h5,h6,h7⟩:=OF.cV gd hv;obtain⟨d2,q,ccs,k1,k2,k3,k4,k5⟩:=oQ ss d1 _ r h3 h1;refine⟨d2,_,(s.1,cc)::ccs,k1,h2.trans k2,k3,⟨fun y K'=>?_,fun y K'=>?_⟩,lY.mono k2 ⟨rfl,h7,h6,hrel d1 cc h2 h5⟩,k5⟩
   ·exact(h4.1 (q y) _).trans (k4.1 y _)
   ·exact(h4.2 (q y) _).trans (k4.2 y _)
  have hk':rF h d s.2 (fun d' p=>np h ss d' fun d2 q=>K d2 fun y=>p (q y)) (aget d.ax s.1)=some r:=hk
  unfold rF at hk';split at hk'
  ·rename_i n hn
   split at hk'
   ·rename_i o ho
    exact fin (some o) hk' fun d1 cc hle hr=>.inl ⟨n,o,hle.ax _ _ hn,ho,hr⟩
   ·cases hk'
  ·rename_i hn
   exact fin none hk' fun d1 cc hle hr=>.inr ⟨hle.ax _ _ hn,hr⟩
  ·cases hk'
theorem wQ(d:DS):∀(l:List Nat),d.ok l=true→∀n,n∈l→ahas d.ax n=false
 | [],_,n,hn=>by cases hn
 | m::l,h,n,hn=>by
  simp only[DS.ok]at h;cases hb:ahas d.ax m with
  | true=>rw[hb]at h;cases h
  | false =>
   rw[hb]at h;rcases List.mem_cons.1 hn with rfl | hn
   ·exact hb
   ·exact wQ d l h n hn
theorem jh:∀(m:List Nat) (j:Nat),aget (iB m) j=if j∈m then some (some j) else none
 | [],j=>by simp[iB,aget]
 | k::m,j=>by
  rw[iB,bH,jh m j]
  by_cases h:k=j
  ·rw[if_pos h,if_pos (by rw[h];exact List.mem_cons_self),h]
  ·rw[if_neg h]
   by_cases h2:j∈m
   ·rw[if_pos h2,if_pos (List.mem_cons_of_mem _ h2)]
   ·rw[if_neg h2,if_neg (by simp only[List.mem_cons,not_or];exact⟨Ne.symm h,h2⟩)]
theorem sG:∀(m:List Nat) (n:Nat),ahas (iB m) n=true↔n∈m
 | [],n=>by simp[iB,ahas]
 | k::m,n=>by
  by_cases h:k=n
  ·subst h;simp[iB,ahas,bT]
  ·simp only[iB,ahas,fZ h,sG m n,List.mem_cons]
   constructor
   ·exact .inr
   ·exact fun q=>q.resolve_left (Ne.symm h)
theorem zr(m:List Nat):DS.inj ⟨iB m,[]⟩:=by
 constructor
 ·intro i j n hi hj
  simp only[jh]at hi hj;split at hi<;>split at hj<;>(try simp only[Option.some.injEq]at hi hj)<;>first | (cases hi;done) | (cases hj;done) | omega
 ·intro n
  rw[sG];constructor
  ·intro h;exact⟨n,by simp only[jh,if_pos h]⟩
  ·rintro ⟨j,hj⟩
   simp only[jh]at hj;split at hj
   ·rename_i hm
    simp only[Option.some.injEq]at hj;exact hj▸hm
   ·cases hj
structure Read (s:Shape) (m:List Nat) (h:RH) (g:Nat→Option AV) (x:s.X) (d:DS) (as:List (Nat×AV)) (os:aK):Prop where
 Gk:∀{R:Type 1} (K:List (Nat×AV)→aK→R),s.bZ x K=K as os
 j2:∀{R:Type} (K:List (Nat×AV)→aK→R),s.bZ x K=K as os
 sl:All2 (o8 h d g) s.sl as
 ob:All2 (lY h d) s.ob os
 bG:d.bG h
 ok:∀n,n∈d.cB→∀j,aget d.ax j≠some (some n)
 ids:∀j,j∈m→aget d.ax j=some (some j)
theorem Shape.cV{R:Type u}{s:Shape}{m:List Nat}{h:RH}{g:Nat→Option AV}{K:s.X→DS→Option R}{r:R}(hk:s.decK m h g K=some r):∃x d as os,K x d=some r∧Read s m h g x d as os:=by
 unfold Shape.decK at hk;have g0:DS.bG h ⟨iB m,[]⟩:=⟨zr m,fun n hn=>by cases hn⟩
 obtain⟨d1,p,as,h1,h2,h3,h4,h5⟩:=oX s.sl _ _ r g0 hk;obtain⟨d2,q,os,k1,k2,k3,k4,k5⟩:=oQ s.ob d1 _ r h3 h1;cases hb:d2.ok d2.cB with
 | false=>rw[hb]at k1;cases k1
 | true =>
  rw[hb]at k1;refine⟨p (q ()),d2,as,os,k1,⟨fun K'=>?_,fun K'=>?_,All2.mono (fun _ _=>o8.mono k2) _ _ h5,k5,k3,fun n hn j hj=>?_,fun j hj=>(h2.trans k2).ax j _ (by rw[jh,if_pos hj])⟩⟩
  ·exact(h4.1 (q ()) _).trans (k4.1 () _)
  ·exact(h4.2 (q ()) _).trans (k4.2 () _)
  ·have:=wQ d2 d2.cB hb n hn
   rw[(k3.inj.2 n).2 ⟨j,hj⟩]at this;cases this
end Go.Proofs.YthdgahpomhnidaaGreat.Mx
namespace Go.Proofs.YthdgahpomhnidaaGreat.Mx
open Go
universe u
def ksize:List (Nat×OF)→Nat→Nat
 | [],_=>0
 | (k,.arr e)::r,j=>if k=j then e.size else ksize r j
 | (k,.box _)::r,j=>if k=j then 0 else ksize r j
def gE(s:Shape)(d:DS)(g:Gh):Gh :=
  ⟨fun j=>match aget d.ax j with
    | some (some n)=>g.φ n
    | some none=>some ⟨none,none,0,0,ksize s.ob j⟩
    | none=>none,
   fun b=>g.ro b∨∃n,n∈d.cB∧∃Q,g.φ n=some Q∧Q.bJ=some b⟩
theorem fB{s:Shape}{d:DS}{g:Gh}{j n:Nat}(h:aget d.ax j=some (some n)):(gE s d g).φ j=g.φ n:=by simp only[gE,h]
theorem lz{s:Shape}{d:DS}{g:Gh}{j:Nat}(h:aget d.ax j=some none):(gE s d g).φ j=some ⟨none,none,0,0,ksize s.ob j⟩:=by simp only[gE,h]
theorem All2.comp{α β γ:Type}{R:α→β→Prop}{S:β→γ→Prop}{T:α→γ→Prop}(h:∀x y z,R x y→S y z→T x z):∀{l:List α} {m:List β} {k:List γ},All2 R l m→All2 S m k→All2 T l k
 | [],[],[],_,_=>trivial
 | _::_,_::_,_::_,⟨a,b⟩,⟨c,d⟩=>⟨h _ _ _ a c,All2.comp h b d⟩
 | [],_::_,_,h,_=>h.elim
 | _::_,[],_,h,_=>h.elim
 | [],[],_::_,_,h=>h.elim
 | _::_,_::_,[],_,h=>h.elim
section
variable {mt:Nat→Prop} {g:Gh} {H:HF} {hp:HP} {s:Shape} {m:List Nat} {d:DS}
theorem wU{e:Ty}{l:List e.T}{n:Nat}{Q:Pl}(M:Mem mt g H hp)(hn:n∈d.cB)(hQ:g.φ n=some Q)(hA:cr g hp Q e l):l≠[]→∃b,Q.bJ=some b∧Q.base=some ⟨b,0,none⟩∧(gE s d g).ro b∧∃cs t fz us rest,hp[b]?=some (.cells cs t fz)∧cs.toList=us++rest∧RdL (Rd (gE s d g).ro hp e) l us:=fun hl=>by
 obtain⟨a1,a2,a3,a4⟩:=hA;cases hb:Q.bJ with
 | none=>rw[hb]at a4;exact absurd (List.length_eq_zero_iff.1 (by omega)) hl
 | some b =>
  rw[hb]at a4;obtain⟨a5,vs,t,us,rest,a6,a7,a8,a9⟩:=a4;exact⟨b,rfl,a5,.inr ⟨n,hn,Q,hQ,hb⟩,vs,t,(0,0),us,rest,a6,a7,RdL.mono (fun x vs=>Rd.aL (fun b h=>.inl h) (fun _ _=>rfl) e x vs) l us a8⟩
theorem bu.dR{c c':CV}{v:Value}(hnp:∀e l i o,c≠.rptr e l i o)(M:Mem mt g H hp)(hr:bu H d c c')(hv:Mx.VR g hp c' v):Mx.VR (gE s d g) hp c v:=by
 cases c with
 | int k n=>cases hr;exact hv
 | bool b=>cases hr;exact hv
 | str b=>cases hr;exact hv
 | fint n=>cases hr;exact hv
 | cint x y=>cases hr;exact hv
 | nilp=>cases hr;exact hv
 | nilf=>cases hr;exact hv
 | nili=>cases hr;exact hv
 | nils=>cases hr;exact hv
 | dyn x=>obtain rfl:c'=_:=hr;exact iI.aL (fun b h=>.inl h) (fun _ _=>rfl) x v hv
 | ptr j o =>
  obtain⟨n,h1,rfl⟩:=hr;obtain⟨Q,b,h2,h3,h4⟩:=hv;exact⟨Q,b,by rw[fB h1];exact h2,h3,h4⟩
 | own j =>
  rcases hr with ⟨n,h1,rfl⟩ | ⟨h1,rfl⟩
  ·obtain⟨Q,h2,h3⟩:=hv
   exact⟨Q,by rw[fB h1];exact h2,h3⟩
  ·exact⟨_,lz h1,hv⟩
 | fn f js =>
  obtain⟨ns,rfl,h1⟩:=hr;obtain⟨vs,h2,h3⟩:=hv;refine⟨vs,h2,All2.comp (fun j n u hj hu=>?_) h1 h3⟩
  obtain⟨Q,b,k1,k2,k3⟩:=hu;exact⟨Q,b,by rw[fB hj];exact k1,k2,k3⟩
 | row e l =>
  rcases hr with rfl | ⟨rfl,rfl⟩ | ⟨n,hn,hrow,rfl⟩ | ⟨n,lo,hi,l0,hn,hrow,rfl,rfl⟩ | ⟨n,off,len,stride,lo,hi,hn,hb,rfl⟩
  ·exact Rd.aL (fun b h=>.inl h) (fun _ _=>rfl) (.row e) l [v] hv
  ·obtain rfl:v=_:=hv
   exact⟨none,0,rfl,Nat.le_refl _,fun h=>absurd rfl h⟩
  ·obtain⟨Q,hQ,rfl⟩:=hv
   have hA:cr g hp Q e l:=by
    rcases mj hrow with ho | ho
    ·obtain⟨Q',hQ',hO⟩:=M.obj n _ ho;rw[hQ]at hQ';cases hQ';exact hO
    ·obtain⟨Q',hQ',hO⟩:=M.obj n _ ho;rw[hQ]at hQ';cases hQ';exact hO
   refine⟨Q.base,Q.cap,by rw[hA.1],by rw[←hA.1];exact hA.2.2.1,fun hl=>?_⟩
   obtain⟨b,h1,h2,h3,cs,t,fz,us,rest,h4,h5,h6⟩:=wU (s:=s) M hn hQ hA hl;exact⟨b,0,cs,t,fz,us,rest,h2,h3,h4,by rw[List.drop_zero,h5],h6⟩
  ·obtain⟨Q,A,c,hQ,hlo,hhi,hcap,rfl,hA0⟩:=hv
   have hA:cr g hp Q e l0:=by
    rcases mj hrow with ho | ho
    ·obtain⟨Q',hQ',hO⟩:=M.obj n _ ho;rw[hQ]at hQ';cases hQ';exact hO
    ·obtain⟨Q',hQ',hO⟩:=M.obj n _ ho;rw[hQ]at hQ';cases hQ';exact hO
   have hlen:((l0.take hi).drop lo).length=hi-lo:=by rw[List.length_drop,List.length_take,←hA.1];omega
   refine⟨A,c,by rw[hlen],by rw[hlen];exact hcap,fun hl=>?_⟩
   have hlt:lo<hi:=by
    rcases Nat.lt_or_ge lo hi with h' | h'
    ·exact h'
    ·exact absurd (List.length_eq_zero_iff.1 (by rw[hlen];omega)) hl
   obtain⟨b,hb1,hb2⟩:=hA0 hlt;obtain⟨b',h1,h2,h3,cs,t,fz,us,rest,h4,h5,h6⟩:=wU (s:=s) M hn hQ hA (by rintro rfl;have:=hA.1;simp at this;omega)
   rw[hb1]at h1;cases h1;have hul:=RdL.length l0 us h6;have hle:lo*e.size≤hi*e.size:=Nat.mul_le_mul_right _ (by omega)
   have hle2:hi*e.size≤l0.length*e.size:=Nat.mul_le_mul_right _ (by rw[←hA.1];exact hhi)
   refine⟨b,lo*Q.size,cs,t,fz,(us.take (hi*e.size)).drop (lo*e.size),us.drop (hi*e.size)++rest,hb2,h3,h4,?_,RdL.take_drop l0 us lo hi h6 (by rw[←hA.1];exact hhi)⟩
   rw[hA.2.1,h5]
   conv=>lhs;rw[←List.take_append_drop (hi*e.size) us]
   rw[List.append_assoc,List.drop_append_of_le_length (by rw[List.length_take];omega)]
  ·obtain⟨Q,b,A,c,hQ,hb1,hlo,hhi,hk,rfl,hA⟩:=hv
   unfold bsubOf at hb;split at hb
   ·rename_i cs hcs
    split at hb
    ·rename_i l' hcut
     split at hb
     ·rename_i q hdec
      cases hst:Nat.beq stride e.size with
      | false=>rw[hst]at hb;cases hb
      | true =>
       rw[hst]at hb;simp only[Option.some.injEq]at hb;subst hb;obtain⟨Q',hQ',b',vs,t,q1,q2,q3⟩:=M.obj n _ hcs;rw[hQ]at hQ';cases hQ';rw[hb1]at q1;cases q1;obtain⟨k1,k2⟩:=lN q3 hcut;obtain⟨k3,k4⟩:=ru len l' _ q k1 hdec;have hlen:((q.take hi).drop lo).length=hi-lo:=by rw[List.length_drop,List.length_take,k4];omega
       refine⟨A,c,by rw[hlen],by rw[hlen];exact hk,fun hl=>?_⟩
       have hlt:lo<hi:=by
        rcases Nat.lt_or_ge lo hi with h' | h'
        ·exact h'
        ·exact absurd (List.length_eq_zero_iff.1 (by rw[hlen];omega)) hl
       have hle:lo*e.size≤hi*e.size:=Nat.mul_le_mul_right _ (by omega)
       have hle2:hi*e.size≤len*e.size:=Nat.mul_le_mul_right _ (by omega)
       have htd:=RdL.take_drop q _ lo hi k3 (by rw[k4];exact hhi)
       obtain⟨U,hU⟩:∃U,U=(vs.toList.drop off).take (len*e.size):=⟨_,rfl⟩
       rw[←hU]at htd k2;refine⟨b,off+lo*stride,vs,t,(0,0),(U.take (hi*e.size)).drop (lo*e.size),U.drop (hi*e.size)++(vs.toList.drop off).drop (len*e.size),hA hlt,.inr ⟨n,hn,Q,hQ,hb1⟩,q2,?_,RdL.mono (fun x vs=>Rd.aL (fun b h=>.inl h) (fun _ _=>rfl) e x vs) _ _ htd⟩
       rw[←List.drop_drop,beq_eq hst]
       conv=>lhs;rw[←List.take_append_drop (len*e.size) (vs.toList.drop off),←hU]
       have hUl:U.length=len*e.size:=k2
       conv=>lhs;rw[←List.take_append_drop (hi*e.size) U]
       rw[List.append_assoc,List.drop_append_of_le_length (by rw[List.length_take];omega)]
     ·cases hb
    ·cases hb
   ·cases hb
 | dead=>trivial
 | eptr j i o =>
  obtain⟨n,h1,rfl⟩:=hr;obtain⟨Q,b,h2,h3⟩:=hv;exact⟨Q,b,by rw[fB h1];exact h2,h3⟩
 | aptr _ _ _ _ _ _=>exact hr.elim
 | sub _ _ _=>exact hr.elim
 | bsub _ _ _ _ _ _=>exact hr.elim
 | rptr e l i o=>exact absurd rfl (hnp e l i o)
 | ifc _ _ _=>exact hr.elim
theorem EL{c c':CV}{ns:List Nat}{v:Value}(M:Mem mt g H hp)(hc:thawC H c=some (c',ns))(hns:∀k,k∈ns→k∈d.cB)(hv:Mx.VR g hp c v):Mx.VR (gE s d g) hp c' v:=by
 have row:∀{e:Ty} {k:Nat} {l:List e.T},(H k=some (.arr e l)∨H k=some (.bF e l))→rowOf H e k=some l:=fun h=>by
  rcases h with h | h<;>simp[rowOf,h]
 unfold thawC at hc;split at hc<;>(try split at hc)<;>first | (cases hc;done) | skip
 all_goals (simp only[Option.some.injEq,Prod.mk.injEq]at hc;obtain⟨rfl,rfl⟩:=hc)
 ·exact bu.dR (fun _ _ _ _ h=>by cases h) M (c':=.own _) (.inr (.inr (.inl ⟨_,hns _ (List.mem_singleton.2 rfl),row (.inl (by assumption)),rfl⟩))) hv
 ·exact bu.dR (fun _ _ _ _ h=>by cases h) M (c':=.own _) (.inr (.inr (.inl ⟨_,hns _ (List.mem_singleton.2 rfl),row (.inr (by assumption)),rfl⟩))) hv
 ·exact bu.dR (fun _ _ _ _ h=>by cases h) M (c':=.sub _ _ _) (.inr (.inr (.inr (.inl ⟨_,_,_,_,hns _ (List.mem_singleton.2 rfl),row (.inl (by assumption)),rfl,rfl⟩)))) hv
 ·exact bu.dR (fun _ _ _ _ h=>by cases h) M (c':=.sub _ _ _) (.inr (.inr (.inr (.inl ⟨_,_,_,_,hns _ (List.mem_singleton.2 rfl),row (.inr (by assumption)),rfl,rfl⟩)))) hv
 ·exact bu.dR (fun _ _ _ _ h=>by cases h) M (c':=.int _ _) rfl hv
 ·exact bu.dR (fun _ _ _ _ h=>by cases h) M (c':=.bool _) rfl hv
 ·exact bu.dR (fun _ _ _ _ h=>by cases h) M (c':=.str _) rfl hv
 ·exact bu.dR (fun _ _ _ _ h=>by cases h) M (c':=.row _ _) (.inl rfl) hv
 ·exact bu.dR (fun _ _ _ _ h=>by cases h) M (c':=.nils) rfl hv
theorem uZ(M:Mem mt g H hp):∀(cs cs':List CV) (ns:List Nat) (vs:List Value),thawCs H cs=some (cs',ns)→(∀k,k∈ns→k∈d.cB)→All2 (Mx.VR g hp) cs vs→All2 (Mx.VR (gE s d g) hp) cs' vs
 | [],cs',ns,[],hc,_,_=>by
  simp only[thawCs,Option.some.injEq,Prod.mk.injEq]at hc;rw[←hc.1];trivial
 | c::cs,cs',ns,v::vs,hc,hns,⟨h1,h2⟩=>by
  unfold thawCs at hc;split at hc
  ·rename_i c1 n1 k1
   split at hc
   ·rename_i c2 n2 k2
    simp only[Option.some.injEq,Prod.mk.injEq]at hc;obtain⟨rfl,rfl⟩:=hc;exact⟨EL M k1 (fun k hk=>hns k (List.mem_append_left _ hk)) h1,uZ M cs c2 n2 vs k2 (fun k hk=>hns k (List.mem_append_right _ hk)) h2⟩
   ·cases hc
  ·cases hc
 | [],_,_,_::_,_,_,h=>h.elim
 | _::_,_,_,[],_,_,h=>h.elim
theorem bu.VR{c c':CV}{v:Value}(M:Mem mt g H hp)(hr:bu H d c c')(hv:Mx.VR g hp c' v):Mx.VR (gE s d g) hp c v:=by
 cases c with
 | rptr e l i o =>
  obtain⟨rfl,rfl,hr⟩:=hr;rcases hr with ⟨x,n,ns,rfl,rfl,hn,hns,hx⟩ | ⟨l0,j,rfl,rfl⟩
  ·obtain⟨Q,b,h1,h2,rfl⟩:=hv
   unfold boxOf at hx;split at hx
   ·rename_i cs hcs
    split at hx
    ·rename_i cs' ms hms
     split at hx
     ·rename_i x' hdec
      simp only[Option.some.injEq,Prod.mk.injEq]at hx;obtain⟨rfl,rfl⟩:=hx;obtain⟨Q',hQ',b',vs,t,q1,q2,q3⟩:=M.obj n _ hcs;rw[h1]at hQ';cases hQ';rw[h2]at q1;cases q1;obtain⟨u,w,hu,hR,hw⟩:=nD e cs' vs.toList x' [] (uZ (s:=s) M cs cs' _ vs.toList hms hns q3) hdec;refine⟨b,0,vs,t,(0,0),u,w,by simp,.inr ⟨n,hn,Q,h1,h2⟩,q2,by rw[List.drop_zero,hu],⟨u,[],by simp,hR,rfl⟩,Nat.zero_lt_one⟩
     ·cases hx
    ·cases hx
   ·cases hx
  ·obtain⟨b,o,cs,t,fz,us,rest,rfl,h2,h3,h4,h5,h6⟩:=hv
   obtain⟨u,k1,k2⟩:=RdL.get l0 us j e.dh h5 h6;have hlen:=RdL.length l0 us h5;have hle:j*e.size≤us.length:=by rw[hlen];exact Nat.mul_le_mul_right _ (Nat.le_of_lt h6)
   refine⟨b,o+j*e.size,cs,t,fz,u,(us.drop (j*e.size)).drop e.size++rest,by simp,.inl h2,h3,?_,⟨u,[],by simp,Rd.aL (fun b h=>.inl h) (fun _ _=>rfl) e _ u k2,rfl⟩,Nat.zero_lt_one⟩
   rw[←List.drop_drop,h4,List.drop_append_of_le_length hle,←k1,←List.append_assoc,List.take_append_drop]
 | int _ _=>exact bu.dR (fun _ _ _ _ h=>by cases h) M hr hv
 | bool _=>exact bu.dR (fun _ _ _ _ h=>by cases h) M hr hv
 | str _=>exact bu.dR (fun _ _ _ _ h=>by cases h) M hr hv
 | fint _=>exact bu.dR (fun _ _ _ _ h=>by cases h) M hr hv
 | cint _ _=>exact bu.dR (fun _ _ _ _ h=>by cases h) M hr hv
 | nilp=>exact bu.dR (fun _ _ _ _ h=>by cases h) M hr hv
 | nilf=>exact bu.dR (fun _ _ _ _ h=>by cases h) M hr hv
 | nili=>exact bu.dR (fun _ _ _ _ h=>by cases h) M hr hv
 | nils=>exact bu.dR (fun _ _ _ _ h=>by cases h) M hr hv
 | ptr _ _=>exact bu.dR (fun _ _ _ _ h=>by cases h) M hr hv
 | eptr _ _ _=>exact bu.dR (fun _ _ _ _ h=>by cases h) M hr hv
 | aptr _ _ _ _ _ _=>exact bu.dR (fun _ _ _ _ h=>by cases h) M hr hv
 | own _=>exact bu.dR (fun _ _ _ _ h=>by cases h) M hr hv
 | sub _ _ _=>exact bu.dR (fun _ _ _ _ h=>by cases h) M hr hv
 | bsub _ _ _ _ _ _=>exact bu.dR (fun _ _ _ _ h=>by cases h) M hr hv
 | row _ _=>exact bu.dR (fun _ _ _ _ h=>by cases h) M hr hv
 | fn _ _=>exact bu.dR (fun _ _ _ _ h=>by cases h) M hr hv
 | ifc _ _ _=>exact bu.dR (fun _ _ _ _ h=>by cases h) M hr hv
 | dyn _=>exact bu.dR (fun _ _ _ _ h=>by cases h) M hr hv
 | dead=>exact bu.dR (fun _ _ _ _ h=>by cases h) M hr hv
theorem jv.bI{a a':AV}{v:Value}(M:Mem mt g H hp)(hr:jv H d a a')(hv:Mx.bI g hp a' v):Mx.bI (gE s d g) hp a v:=by
 cases a with
 | c x=>cases a' with
  | c y=>exact bu.VR M hr hv
  | agg _=>exact hr.elim
 | agg xs=>cases a' with
  | c y=>exact hr.elim
  | agg ys =>
   obtain⟨vs,h1,h2⟩:=hv;exact⟨vs,h1,All2.comp (R:=bu H d) (S:=Mx.VR g hp) (T:=Mx.VR (gE s d g) hp) (fun _ _ _ p q=>bu.VR M p q) hr h2⟩
theorem lx:∀{ss:List (Nat×OF)} {os:aK} {j:Nat} {o:Obj},All2 (lY H d) ss os→hget os j=some o→∃x,x∈ss∧x.1=j∧lY H d x (j,o)
 | [],[],_,_,_,h=>by cases h
 | x::ss,(k,o')::os,j,o,⟨hx,hr⟩,h=>by
  rw[hC]at h
  by_cases e:k=j
  ·rw[if_pos e]at h;cases h;subst e;exact⟨x,List.mem_cons_self,hx.1,hx⟩
  ·rw[if_neg e]at h
   obtain⟨y,h1,h2,h3⟩:=lx hr h;exact⟨y,List.mem_cons_of_mem _ h1,h2,h3⟩
 | [],_::_,_,_,h,_=>h.elim
 | _::_,[],_,_,h,_=>h.elim
theorem pW:∀{ss:List (Nat×OF)} {j:Nat} {e:Ty},nodupK ss=true→(j,.arr e)∈ss→ksize ss j=e.size
 | [],_,_,_,h=>by cases h
 | (k,f)::r,j,e,hn,h=>by
  simp only[nodupK,Bool.and_eq_true,Bool.not_eq_true',List.any_eq_false]at hn;rcases List.mem_cons.1 h with h2 | h2
  ·cases h2;simp only[ksize,if_true]
  ·have hk:k≠j:=fun e'=>by
    have:=hn.1 _ h2;rw[e']at this;simp[bT]at this
   cases f with
   | arr e2=>simp only[ksize,if_neg hk];exact pW hn.2 h2
   | box cs=>simp only[ksize,if_neg hk];exact pW hn.2 h2
theorem Ci(h:s.wf=true):nodupK s.ob=true:=by
 simp only[Shape.wf,Bool.and_eq_true]at h;exact h.1.1
theorem Read.mem{gA:Nat→Option AV}{x:s.X}{as:List (Nat×AV)}{os:aK}{mt':Nat→Prop}(R:Read s m H gA x d as os)(M:Mem mt g H hp)(hw:s.wf=true)
  (hmt:∀j n o Q b,aget d.ax j=some (some n)→H n=some o→o.dA=false→g.φ n=some Q→Q.bJ=some b→mt' b):Mem mt' (gE s d g) (hget os) hp:=by
 have frz_ne:∀n,n∈d.cB→∀Q b,g.φ n=some Q→Q.bJ=some b→∀k o Q' j,aget d.ax j=some (some k)→H k=some o→g.φ k=some Q'→Q'.bJ≠some b:=fun n hn Q b hQ hb k o Q' j hj ho hQ'=>by
  obtain⟨o0,h⟩:=R.bG.qv n hn;have hne:n≠k:=fun e'=>R.ok n hn j (by rw[e'];exact hj)
  exact M.sep n k _ o Q Q' b hne h ho hQ hQ' hb
 refine⟨fun j o h=>?_,fun j o Q b h hi hQ hb=>?_,fun j o Q b h hi hQ hb=>?_,fun j k o o' Q Q' b hjk h h' hQ hQ' hb=>?_,fun b hb=>?_⟩
 ·obtain⟨y,hy,hyj,hB⟩:=lx R.ob h
  obtain⟨b1,b2,b3,b4⟩:=hB;rcases b4 with ⟨n,o',h1,h2,h3⟩ | ⟨h1,h3⟩
  ·obtain⟨Q,hQ,hO⟩:=M.obj n o' h2
   refine⟨Q,by rw[fB h1];exact hQ,?_⟩
   cases o with
   | bF _ _=>cases b2
   | box cs =>
    cases o' with
    | box vs =>
     obtain⟨b,vals,t,k1,k2,k3⟩:=hO;exact⟨b,vals,t,k1,k2,All2.comp (R:=bu H d) (S:=Mx.VR g hp) (T:=Mx.VR (gE s d g) hp) (fun _ _ _ p q=>bu.VR M p q) h3 k3⟩
    | arr _ _=>exact h3.elim
    | bF _ _=>exact h3.elim
   | arr e l =>
    cases o' with
    | box _=>exact h3.elim
    | bF _ _=>exact h3.elim
    | arr e' l' =>
     have h3':(⟨e,l⟩:(e:Ty)×List e.T)=⟨e',l'⟩:=h3;cases h3';have st:cA g hp (gE s d g) hp→True:=fun _=>trivial
     obtain⟨a1,a2,a3,a4⟩:=(hO:cr g hp Q e l);refine⟨a1,a2,a3,?_⟩;cases hb:Q.bJ with
     | none=>rw[hb]at a4;exact a4
     | some b =>
      rw[hb]at a4;obtain⟨a5,vs,t,us,rest,a6,a7,a8,a9⟩:=a4;exact⟨a5,vs,t,us,rest,a6,a7,RdL.mono (fun x vs=>Rd.aL (fun b h=>.inl h) (fun _ _=>rfl) e x vs) l us a8,a9⟩
  ·refine⟨_,lz h1,?_⟩
   cases o with
   | bF _ _=>cases b2
   | box cs=>exact h3.elim
   | arr e l =>
    obtain rfl:l=[]:=h3;obtain⟨yk,yf⟩:=y
    simp only at hyj
    subst hyj;cases yf with
    | box _=>obtain⟨_,hh⟩:=b3;cases hh
    | arr e2 =>
     obtain⟨l2,hh⟩:=b3;cases hh;exact⟨rfl,pW (Ci hw) hy,Nat.le_refl _,rfl,rfl,rfl⟩
 ·obtain⟨y,hy,hyj,b1,b2,b3,b4⟩:=lx R.ob h
  rcases b4 with ⟨n,o',h1,h2,h3⟩ | ⟨h1,h3⟩
  ·have h1':aget d.ax j=some (some n):=h1
   rw[fB h1']at hQ;have hi':o'.dA=false:=by
    cases o' with
    | bF _ _=>cases o<;>exact h3.elim
    | _=>rfl
   obtain⟨k1,k2⟩:=M.own n o' Q b h2 hi' hQ hb;refine⟨hmt j n o' Q b h1' h2 hi' hQ hb,fun hro=>hro.elim k2 ?_⟩
   rintro ⟨f,hf,Qf,hQf,hbf⟩
   exact frz_ne f hf Qf b hQf hbf n o' Q j h1' h2 hQ hb
  ·have h1':aget d.ax j=some none:=h1
   rw[lz h1']at hQ;cases hQ;cases hb
 ·obtain⟨y,hy,hyj,b1,b2,b3,b4⟩:=lx R.ob h
  have b2':o.dA=false:=b2;rw[b2']at hi;cases hi
 ·obtain⟨y,hy,hyj,b1,b2,b3,b4⟩:=lx R.ob h
  obtain⟨z,hz,hzj,c1,c2,c3,c4⟩:=lx R.ob h';rcases b4 with ⟨n,o1,h1,h2,h3⟩ | ⟨h1,h3⟩
  ·have h1':aget d.ax j=some (some n):=h1
   rw[fB h1']at hQ;rcases c4 with ⟨n',o2,k1,k2,k3⟩ | ⟨k1,k3⟩
   ·have k1':aget d.ax k=some (some n'):=k1
    rw[fB k1']at hQ';exact M.sep n n' o1 o2 Q Q' b (fun e=>hjk (R.bG.inj.1 j k n h1' (by rw[e];exact k1'))) h2 k2 hQ hQ' hb
   ·have k1':aget d.ax k=some none:=k1
    rw[lz k1']at hQ';cases hQ';simp
  ·have h1':aget d.ax j=some none:=h1
   rw[lz h1']at hQ;cases hQ;cases hb
 ·rcases hb with hb | ⟨n,hn,Q,hQ,hb⟩
  ·exact M.ro b hb
  ·obtain⟨o0,h⟩:=R.bG.qv n hn
   obtain⟨Q',hQ',hO⟩:=M.obj n _ h;rw[hQ]at hQ';cases hQ';exact hO.lt b hb
theorem Read.ro{gA:Nat→Option AV}{x:s.X}{as:List (Nat×AV)}{os:aK}(R:Read s m H gA x d as os)(M:Mem mt g H hp):∀b,(gE s d g).ro b→g.ro b∨mt b:=fun b hb=>by
 rcases hb with hb | ⟨n,hn,Q,hQ,hb⟩
 ·exact .inl hb
 ·obtain⟨o0,h⟩:=R.bG.qv n hn
  cases hi:o0.dA with
  | false=>exact .inr (M.own n _ Q b h hi hQ hb).1
  | true=>exact .inl (M.bF n _ Q b h hi hQ hb)
end
end Go.Proofs.YthdgahpomhnidaaGreat.Mx
namespace Go.Proofs.YthdgahpomhnidaaGreat.Mx
open Go
universe u
variable {P:Program}
def iT:CF→CV→Prop
 | .int k,c=>∃n,c=.int k n
 | .bool,c=>∃n,c=.bool n
 | .str,c=>∃n,c=.str n
 | .fint,c=>∃n,c=.fint n
 | .cint,c=>∃n m,c=.cint n m
 | .row e,c=>∃l,c=.row e l
 | .nilp,c=>c=.nilp
 | .nilf,c=>c=.nilf
 | .nili,c=>c=.nili
 | .nils,c=>c=.nils
 | .own j,c=>c=.own j
 | .ptr j o,c=>c=.ptr j o
 | .eptr j o,c=>∃i,c=.eptr j i o
 | .fn f js,c=>c=.fn f js
 | .bptr e,c=>∃x,c=.rptr e [x] 0 0
 | .dyn,c=>∃x,c=.dyn x
 | .dead,c=>c=.dead
def pw:AF→AV→Prop
 | .c x,.c y=>iT x y
 | .agg xs,.agg ys=>All2 iT xs ys
 | _,_=>False
def kU:OF→Obj→Prop
 | .box cs,.box vs=>All2 iT cs vs
 | .arr e,.arr e' _=>e'=e
 | _,_=>False
def oh{α β γ:Type}(enc:{R:Type 1}→β→(γ→α→R)→R)(j2:{R:Type}→β→(γ→α→R)→R)(x:β)(c:γ)(y:α):Prop :=
 (∀{R:Type 1} (K:γ→α→R),enc x K=K c y)∧∀{R:Type} (K:γ→α→R),j2 x K=K c y
theorem CF.laid{α:Type}(c:CF)(x:c.P α):∃v y,oh (fun {R}=>c.bZ (R:=R)) (fun {R}=>c.bZ (R:=R)) x v y∧iT c v:=by
 cases c with
 | int k=>exact⟨.int k x.1,x.2,⟨fun _=>rfl,fun _=>rfl⟩,_,rfl⟩
 | bool=>exact⟨.bool x.1,x.2,⟨fun _=>rfl,fun _=>rfl⟩,_,rfl⟩
 | str=>exact⟨.str x.1,x.2,⟨fun _=>rfl,fun _=>rfl⟩,_,rfl⟩
 | fint=>exact⟨.fint x.1,x.2,⟨fun _=>rfl,fun _=>rfl⟩,_,rfl⟩
 | cint=>exact⟨.cint x.1 x.2.1,x.2.2,⟨fun _=>rfl,fun _=>rfl⟩,_,_,rfl⟩
 | row e=>exact⟨.row e x.1,x.2,⟨fun _=>rfl,fun _=>rfl⟩,_,rfl⟩
 | nilp=>exact⟨_,x,⟨fun _=>rfl,fun _=>rfl⟩,rfl⟩
 | nilf=>exact⟨_,x,⟨fun _=>rfl,fun _=>rfl⟩,rfl⟩
 | nili=>exact⟨_,x,⟨fun _=>rfl,fun _=>rfl⟩,rfl⟩
 | nils=>exact⟨_,x,⟨fun _=>rfl,fun _=>rfl⟩,rfl⟩
 | own j=>exact⟨_,x,⟨fun _=>rfl,fun _=>rfl⟩,rfl⟩
 | ptr j o=>exact⟨_,x,⟨fun _=>rfl,fun _=>rfl⟩,rfl⟩
 | eptr j o=>exact⟨.eptr j x.1 o,x.2,⟨fun _=>rfl,fun _=>rfl⟩,_,rfl⟩
 | fn f js=>exact⟨_,x,⟨fun _=>rfl,fun _=>rfl⟩,rfl⟩
 | bptr e=>exact⟨.rptr e [x.1] 0 0,x.2,⟨fun _=>rfl,fun _=>rfl⟩,_,rfl⟩
 | dyn=>exact⟨.dyn x.1,x.2,⟨fun _=>rfl,fun _=>rfl⟩,_,rfl⟩
 | dead=>exact⟨_,x,⟨fun _=>rfl,fun _=>rfl⟩,rfl⟩
theorem lZ{α:Type}:∀(cs:List CF) (x:vq cs α),∃vs y,oh (fun {R}=>j9 (R:=R) cs) (fun {R}=>j9 (R:=R) cs) x vs y∧All2 iT cs vs
 | [],x=>⟨[],x,⟨fun _=>rfl,fun _=>rfl⟩,trivial⟩
 | c::cs,x=>by
  obtain⟨v,y,h1,h2⟩:=CF.laid c x;obtain⟨vs,z,k1,k2⟩:=lZ cs y;exact⟨v::vs,z,⟨fun K=>(h1.1 _).trans (k1.1 _),fun K=>(h1.2 _).trans (k1.2 _)⟩,h2,k2⟩
theorem AF.laid{α:Type}(a:AF)(x:a.P α):∃v y,oh (fun {R}=>a.bZ (R:=R)) (fun {R}=>a.bZ (R:=R)) x v y∧pw a v:=by
 cases a with
 | c c =>
  obtain⟨v,y,h1,h2⟩:=CF.laid c x;exact⟨.c v,y,⟨fun K=>h1.1 _,fun K=>h1.2 _⟩,h2⟩
 | agg cs =>
  obtain⟨v,y,h1,h2⟩:=lZ cs x;exact⟨.agg v,y,⟨fun K=>h1.1 _,fun K=>h1.2 _⟩,h2⟩
theorem OF.laid{α:Type}(a:OF)(x:a.P α):∃v y,oh (fun {R}=>a.bZ (R:=R)) (fun {R}=>a.bZ (R:=R)) x v y∧kU a v:=by
 cases a with
 | box cs =>
  obtain⟨v,y,h1,h2⟩:=lZ cs x;exact⟨.box v,y,⟨fun K=>h1.1 _,fun K=>h1.2 _⟩,h2⟩
 | arr e=>exact⟨.arr e x.1,x.2,⟨fun _=>rfl,fun _=>rfl⟩,rfl⟩
theorem qj{α:Type}:∀(ss:List (Nat×AF)) (x:xd ss α),∃as y,oh (fun {R}=>lJ (R:=R) ss) (fun {R}=>lJ (R:=R) ss) x as y∧All2 (fun a b=>a.1=b.1∧pw a.2 b.2) ss as
 | [],x=>⟨[],x,⟨fun _=>rfl,fun _=>rfl⟩,trivial⟩
 | c::cs,x=>by
  obtain⟨v,y,h1,h2⟩:=AF.laid c.2 x;obtain⟨vs,z,k1,k2⟩:=qj cs y;exact⟨(c.1,v)::vs,z,⟨fun K=>(h1.1 _).trans (k1.1 _),fun K=>(h1.2 _).trans (k1.2 _)⟩,⟨rfl,h2⟩,k2⟩
theorem qc{α:Type}:∀(ss:List (Nat×OF)) (x:xF ss α),∃os y,oh (fun {R}=>jn (R:=R) ss) (fun {R}=>jn (R:=R) ss) x os y∧All2 (fun a b=>a.1=b.1∧kU a.2 b.2) ss os
 | [],x=>⟨[],x,⟨fun _=>rfl,fun _=>rfl⟩,trivial⟩
 | c::cs,x=>by
  obtain⟨v,y,h1,h2⟩:=OF.laid c.2 x;obtain⟨vs,z,k1,k2⟩:=qc cs y;exact⟨(c.1,v)::vs,z,⟨fun K=>(h1.1 _).trans (k1.1 _),fun K=>(h1.2 _).trans (k1.2 _)⟩,⟨rfl,h2⟩,k2⟩
structure Laid (s:Shape) (x:s.X) (as:List (Nat×AV)) (os:aK):Prop where
 Gk:∀{R:Type 1} (K:List (Nat×AV)→aK→R),s.bZ x K=K as os
 j2:∀{R:Type} (K:List (Nat×AV)→aK→R),s.bZ x K=K as os
 sl:All2 (fun a b=>a.1=b.1∧pw a.2 b.2) s.sl as
 ob:All2 (fun a b=>a.1=b.1∧kU a.2 b.2) s.ob os
theorem Shape.laid(s:Shape)(x:s.X):∃as os,Laid s x as os:=by
 obtain⟨as,y,h1,h2⟩:=qj s.sl x;obtain⟨os,z,k1,k2⟩:=qc s.ob y;exact⟨as,os,fun K=>(h1.1 _).trans (k1.1 _),fun K=>(h1.2 _).trans (k1.2 _),h2,k2⟩
theorem Laid.same{s:Shape}{x:s.X}{as as':List (Nat×AV)}{os os':aK}(L:Laid s x as os)(h:∀{R:Type} (K:List (Nat×AV)→aK→R),s.bZ x K=K as' os'):as'=as∧os'=os:=by
 have:=(h fun a b=>(a,b)).symm.trans (L.j2 fun a b=>(a,b))
 simp only[Prod.mk.injEq]at this;exact this
def ArgsR(g:Gh)(hp:HP)(as:List (Nat×AV))(vs:Array Value):Prop:=∀i a,(i,a)∈as→bI g hp a (vs.getD i undef)
def dK(P:Program)(f:Nat)(args:Array Value)(w:World)(R:Value→World→Prop):Prop :=
 ((callFunc f args).run P w=.ok (.enter f args) w∧Calls P f args w fun e w2=>∃V,e=.returned V∧R V w2)∨∃V w',(callFunc f args).run P w=.ok (.value V) w'∧R V w'
theorem dK.mono{f:Nat}{args:Array Value}{w:World}{R R':Value→World→Prop}(h:dK P f args w R)(k:∀V w',R V w'→R' V w'):dK P f args w R' :=
 h.imp (fun⟨a,b⟩=>⟨a,Calls.mono b fun _ _ ⟨V,e,q⟩=>⟨V,e,k _ _ q⟩⟩) fun⟨V,w',a,b⟩=>⟨V,w',a,k _ _ b⟩
def kV:(ss:List Shape)→iv ss→(Shape→List (Nat×AV)→aK→Prop)→Prop
 | [],_,_=>False
 | [s],r,Q=>∃as os,Laid s r as os∧Q s as os
 | s::t::r,x,Q=>match (x:s.X⊕iv (t::r)) with
  | .inl y=>∃as os,Laid s y as os∧Q s as os
  | .inr y=>kV (t::r) y Q
def gK(au:List Nat)(g:Gh):Gh:=⟨fun n=>if n∈au then g.φ n else none,g.ro⟩
structure Sound (P:Program) (f:Nat) (S:ah):Prop where
 E7:S.ins.wf=true
 C9:(S.outs.all Shape.wf)=true
 call:∀(x:S.ins.X) (r:iv S.outs),S.f x=some r→∀(mt:Nat→Prop) (g:Gh) (w:World) (vs:Array Value) (as:List (Nat×AV)) (os:aK),Laid S.ins x as os →
  Mem mt g (hget os) w.heap→(∀b,w.heap.size≤b→mt b)→(∀n,db S.ins.ob 0≤n→g.φ n=none)→ArgsR g w.heap as vs →
  dK P f vs w fun V w'=>kV S.outs r fun _ as' os'=>∃g',Ext mt (gK S.au g) w g' w'∧Mem mt g' (hget os') w'.heap∧aV g' w'.heap (fG as') V
def kh:CV→Bool
 | .row _ _=>false
 | .dyn _=>false
 | .rptr _ _ _ _=>false
 | _=>true
theorem vH{g g':Gh}{μ:Nat→Nat}{p:Nat→Prop}(h:∀j Q,p j→g.φ j=some Q→g'.φ (μ j)=some Q):∀(js:List Nat) (us:List Value),(∀j,j∈js→p j)→All2 (jC g) js us→All2 (jC g') (js.map μ) us
 | [],[],_,_=>trivial
 | j::js,u::us,hp,⟨⟨Q,b,h1,h2⟩,hr⟩=>⟨⟨Q,b,h j Q (hp j List.mem_cons_self) h1,h2⟩,vH h js us (fun k hk=>hp k (List.mem_cons_of_mem _ hk)) hr⟩
 | [],_::_,_,h=>h.elim
 | _::_,[],_,h=>h.elim
theorem VR.mF{g g':Gh}{hp:HP}{μ:Nat→Nat}{c:CV}{v:Value}(h:∀j Q,j∈refs c→g.φ j=some Q→g'.φ (μ j)=some Q)(hro:kh c=true∨g'.ro=g.ro)(hv:VR g hp c v):VR g' hp (uL μ c) v:=by
 cases c with
 | ptr n o=>obtain⟨Q,b,h1,h2⟩:=hv;exact⟨Q,b,h n Q (by simp[refs]) h1,h2⟩
 | eptr n i o=>obtain⟨Q,b,h1,h2⟩:=hv;exact⟨Q,b,h n Q (by simp[refs]) h1,h2⟩
 | aptr n _ _ _ _ _=>obtain⟨Q,b,h1,h2⟩:=hv;exact⟨Q,b,h n Q (by simp[refs]) h1,h2⟩
 | own n=>obtain⟨Q,h1,h2⟩:=hv;exact⟨Q,h n Q (by simp[refs]) h1,h2⟩
 | sub n _ _=>obtain⟨Q,A,c,h1,h2⟩:=hv;exact⟨Q,A,c,h n Q (by simp[refs]) h1,h2⟩
 | bsub n _ _ _ _ _=>obtain⟨Q,b,A,c,h1,h2⟩:=hv;exact⟨Q,b,A,c,h n Q (by simp[refs]) h1,h2⟩
 | fn f js=>obtain⟨us,h1,h2⟩:=hv;exact⟨us,h1,vH (p:=fun j=>j∈js) h js us (fun _ h=>h) h2⟩
 | row e l =>
  rcases hro with hro | hro
  ·cases hro
  ·exact Rd.aL (fun b h=>by rw[hro];exact h) (fun _ _=>rfl) (.row e) l [v] hv
 | rptr e l i o =>
  rcases hro with hro | hro
  ·cases hro
  ·obtain⟨b,o,cs,t,fz,us,rest,q1,q2,q3,q4,q5,q6⟩:=hv
   exact⟨b,o,cs,t,fz,us,rest,q1,by rw[hro];exact q2,q3,q4,RdL.mono (fun x vs=>Rd.aL (fun b h=>by rw[hro];exact h) (fun _ _=>rfl) e x vs) l us q5,q6⟩
 | int _ _=>exact hv
 | bool _=>exact hv
 | str _=>exact hv
 | fint _=>exact hv
 | cint _ _=>exact hv
 | nilp=>exact hv
 | nilf=>exact hv
 | nili=>exact hv
 | nils=>exact hv
 | ifc _ _ _=>exact hv
 | dyn d =>
  rcases hro with hro | hro
  ·cases hro
  ·exact iI.aL (fun b h=>by rw[hro];exact h) (fun _ _=>rfl) d v hv
 | dead=>exact hv
theorem VRs.mF{g g':Gh}{hp:HP}{μ:Nat→Nat}:∀{cs:List CV} {vs:List Value},(∀j Q,j∈cs.flatMap refs→g.φ j=some Q→g'.φ (μ j)=some Q)→(cs.all kh=true∨g'.ro=g.ro)→All2 (VR g hp) cs vs→All2 (VR g' hp) (cs.map (uL μ)) vs
 | [],[],_,_,_=>trivial
 | c::cs,v::vs,h,hro,⟨h1,h2⟩=>⟨VR.mF (fun j Q hj=>h j Q (by simp[hj])) (hro.imp (fun q=>by simp only[List.all_cons,Bool.and_eq_true]at q;exact q.1) id) h1,
   VRs.mF (fun j Q hj=>h j Q (by simp only[List.flatMap_cons,List.mem_append];exact .inr hj)) (hro.imp (fun q=>by simp only[List.all_cons,Bool.and_eq_true]at q;exact q.2) id) h2⟩
 | [],_::_,_,_,h=>h.elim
 | _::_,[],_,_,h=>h.elim
def Ap:AV→Bool
 | .c x=>kh x
 | .agg xs=>xs.all kh
theorem bI.mF{g g':Gh}{hp:HP}{μ:Nat→Nat}{a:AV}{v:Value}(h:∀j Q,j∈p7 a→g.φ j=some Q→g'.φ (μ j)=some Q)(hro:Ap a=true∨g'.ro=g.ro)(hv:bI g hp a v):bI g' hp (nt μ a) v:=by
 cases a with
 | c x=>exact VR.mF h hro hv
 | agg xs=>obtain⟨vs,h1,h2⟩:=hv;exact⟨vs,h1,VRs.mF h hro h2⟩
def vk:Obj→Bool
 | .box cs=>cs.all kh
 | .arr e _=>e.flat
 | .bF e _=>e.flat
theorem Rd.flat{ro dr:Nat→Prop}{hp hp':HP}:∀(e:Ty) (x:e.T) (vs:List Value),e.flat=true→Rd ro hp e x vs→Rd dr hp' e x vs
 | .int _,_,_,_,h=>h
 | .bool,_,_,_,h=>h
 | .str,_,_,_,h=>h
 | .row _,_,_,hf,_=>by cases hf
 | .ifc,_,_,hf,_=>by cases hf
 | .prod a b,x,vs,hf,⟨u,v,hv,hu,hw⟩=>by
  simp only[Ty.flat,Bool.and_eq_true]at hf;exact⟨u,v,hv,Rd.flat a x.1 u hf.1 hu,Rd.flat b x.2 v hf.2 hw⟩
theorem fk.mF{g g':Gh}{hp:HP}{μ:Nat→Nat}{Q:Pl}{o:Obj}(h:∀j Q,j∈refsO o→g.φ j=some Q→g'.φ (μ j)=some Q)(hro:vk o=true∨g'.ro=g.ro)(hv:fk g hp Q o):fk g' hp Q (mi μ o):=by
 have arr:∀(e:Ty) (l:List e.T),(e.flat=true∨g'.ro=g.ro)→cr g hp Q e l→cr g' hp Q e l:=fun e l hro hA=>by
  obtain⟨a1,a2,a3,a4⟩:=hA;refine⟨a1,a2,a3,?_⟩;cases hb:Q.bJ with
  | none=>rw[hb]at a4;exact a4
  | some b =>
   rw[hb]at a4;obtain⟨a5,vs,t,us,rest,a6,a7,a8,a9⟩:=a4;refine⟨a5,vs,t,us,rest,a6,a7,?_,a9⟩;rcases hro with hro | hro
   ·exact RdL.mono (fun x vs=>Rd.flat e x vs hro) l us a8
   ·rw[hro];exact a8
 cases o with
 | box cs=>obtain⟨b,vs,t,h1,h2,h3⟩:=hv;exact⟨b,vs,t,h1,h2,VRs.mF h hro h3⟩
 | arr e l=>exact arr e l hro hv
 | bF e l=>exact arr e l hro hv
theorem iT.refs{c:CF}{v:CV}(h:iT c v)(hc:lW c=true):∀j,j∈Mx.refs v→j<keys:=by
 intro j hj;have hlt:∀k,Nat.blt k keys=true→k<keys:=fun k hk=>Nat.le_of_ble_eq_true hk
 cases c with
 | own n=>obtain rfl:v=_:=h;simp only[Mx.refs,List.mem_singleton]at hj;subst hj;simp only[lW,refsF,List.all_cons,List.all_nil,Bool.and_true]at hc;exact hlt _ hc
 | ptr n o=>obtain rfl:v=_:=h;simp only[Mx.refs,List.mem_singleton]at hj;subst hj;simp only[lW,refsF,List.all_cons,List.all_nil,Bool.and_true]at hc;exact hlt _ hc
 | eptr n o=>obtain⟨i,rfl⟩:=h;simp only[Mx.refs,List.mem_singleton]at hj;subst hj;simp only[lW,refsF,List.all_cons,List.all_nil,Bool.and_true]at hc;exact hlt _ hc
 | fn f js=>obtain rfl:v=_:=h;simp only[Mx.refs]at hj;simp only[lW,refsF,List.all_eq_true]at hc;exact hlt _ (hc j hj)
 | int k=>obtain⟨n,rfl⟩:=h;simp[Mx.refs]at hj
 | bool=>obtain⟨n,rfl⟩:=h;simp[Mx.refs]at hj
 | str=>obtain⟨n,rfl⟩:=h;simp[Mx.refs]at hj
 | fint=>obtain⟨n,rfl⟩:=h;simp[Mx.refs]at hj
 | cint=>obtain⟨n,m,rfl⟩:=h;simp[Mx.refs]at hj
 | row e=>obtain⟨n,rfl⟩:=h;simp[Mx.refs]at hj
 | bptr e=>obtain⟨n,rfl⟩:=h;simp[Mx.refs]at hj
 | dyn=>obtain⟨n,rfl⟩:=h;simp[Mx.refs]at hj
 | nilp=>obtain rfl:v=_:=h;simp[Mx.refs]at hj
 | nilf=>obtain rfl:v=_:=h;simp[Mx.refs]at hj
 | nili=>obtain rfl:v=_:=h;simp[Mx.refs]at hj
 | nils=>obtain rfl:v=_:=h;simp[Mx.refs]at hj
 | dead=>obtain rfl:v=_:=h;simp[Mx.refs]at hj
theorem iT.plain{c:CF}{v:CV}(h:iT c v)(hc:mY c=true):kh v=true:=by
 cases c with
 | row e=>cases hc
 | bptr e=>cases hc
 | dyn=>cases hc
 | own n=>obtain rfl:v=_:=h;rfl
 | ptr n o=>obtain rfl:v=_:=h;rfl
 | eptr n o=>obtain⟨i,rfl⟩:=h;rfl
 | fn f js=>obtain rfl:v=_:=h;rfl
 | int k=>obtain⟨n,rfl⟩:=h;rfl
 | bool=>obtain⟨n,rfl⟩:=h;rfl
 | str=>obtain⟨n,rfl⟩:=h;rfl
 | fint=>obtain⟨n,rfl⟩:=h;rfl
 | cint=>obtain⟨n,m,rfl⟩:=h;rfl
 | nilp=>obtain rfl:v=_:=h;rfl
 | nilf=>obtain rfl:v=_:=h;rfl
 | nili=>obtain rfl:v=_:=h;rfl
 | nils=>obtain rfl:v=_:=h;rfl
 | dead=>obtain rfl:v=_:=h;rfl
theorem FitCs.refs:∀{cs:List CF} {vs:List CV},All2 iT cs vs→cs.all lW=true→∀j,j∈vs.flatMap Mx.refs→j<keys
 | [],[],_,_,j,hj=>by simp at hj
 | c::cs,v::vs,⟨h1,h2⟩,hc,j,hj=>by
  simp only[List.all_cons,Bool.and_eq_true]at hc;simp only[List.flatMap_cons,List.mem_append]at hj;exact hj.elim (h1.refs hc.1 j) (FitCs.refs h2 hc.2 j)
 | [],_::_,h,_,_,_=>h.elim
 | _::_,[],h,_,_,_=>h.elim
theorem FitCs.plain:∀{cs:List CF} {vs:List CV},All2 iT cs vs→cs.all mY=true→vs.all kh=true
 | [],[],_,_=>rfl
 | c::cs,v::vs,⟨h1,h2⟩,hc=>by
  simp only[List.all_cons,Bool.and_eq_true]at hc ⊢;exact⟨h1.plain hc.1,FitCs.plain h2 hc.2⟩
 | [],_::_,h,_=>h.elim
 | _::_,[],h,_=>h.elim
theorem pw.refs{a:AF}{v:AV}(h:pw a v)(hc:Gr a=true):∀j,j∈p7 v→j<keys:=by
 cases a with
 | c x=>cases v with
  | c y=>exact iT.refs h hc
  | agg _=>exact h.elim
 | agg xs=>cases v with
  | c y=>exact h.elim
  | agg ys=>exact FitCs.refs h hc
theorem pw.plain{a:AF}{v:AV}(h:pw a v)(hc:Ay a=true):Ap v=true:=by
 cases a with
 | c x=>cases v with
  | c y=>exact iT.plain h hc
  | agg _=>exact h.elim
 | agg xs=>cases v with
  | c y=>exact h.elim
  | agg ys=>exact FitCs.plain h hc
theorem kU.refs{a:OF}{v:Obj}(h:kU a v)(hc:CI a=true):∀j,j∈refsO v→j<keys:=by
 cases a with
 | box cs=>cases v with
  | box vs=>exact FitCs.refs h hc
  | arr _ _=>exact h.elim
  | bF _ _=>exact h.elim
 | arr e=>cases v with
  | box vs=>exact h.elim
  | arr _ _=>intro j hj;simp[refsO]at hj
  | bF _ _=>exact h.elim
theorem kU.plain{a:OF}{v:Obj}(h:kU a v)(hc:zY a=true):vk v=true:=by
 cases a with
 | box cs=>cases v with
  | box vs=>exact FitCs.plain h hc
  | arr _ _=>exact h.elim
  | bF _ _=>exact h.elim
 | arr e=>cases v with
  | box vs=>exact h.elim
  | arr e' _=>obtain rfl:e'=e:=h;exact hc
  | bF _ _=>exact h.elim
theorem kU.live{a:OF}{v:Obj}(h:kU a v):v.dA=false:=by
 cases a with
 | box cs=>cases v with
  | bF _ _=>exact h.elim
  | _=>rfl
 | arr e=>cases v with
  | bF _ _=>exact h.elim
  | _=>rfl
theorem iG{α β:Type}{R:α→β→Prop}:∀{l:List α} {m:List β} {y:β},All2 R l m→y∈m→∃x,x∈l∧R x y
 | [],[],y,_,h=>by cases h
 | a::l,b::m,y,⟨h1,h2⟩,h=>by
  rcases List.mem_cons.1 h with rfl | h
  ·exact⟨a,List.mem_cons_self,h1⟩
  ·obtain⟨x,k1,k2⟩:=iG h2 h
   exact⟨x,List.mem_cons_of_mem _ k1,k2⟩
 | [],_::_,_,h,_=>h.elim
 | _::_,[],_,h,_=>h.elim
theorem uE:∀{os:aK} {j:Nat} {o:Obj},hget os j=some o→(j,o)∈os
 | [],j,o,h=>by cases h
 | (k,o')::os,j,o,h=>by
  rw[hC]at h
  by_cases e:k=j
  ·rw[if_pos e]at h;cases h;subst e;exact List.mem_cons_self
  ·rw[if_neg e]at h;exact List.mem_cons_of_mem _ (uE h)
theorem vE:∀{ss:List (Nat×OF)} {os:aK} {j:Nat} {o:Obj},nodupK ss=true→All2 (fun a b=>a.1=b.1∧kU a.2 b.2) ss os→(j,o)∈os→hget os j=some o
 | [],[],j,o,_,_,h=>by cases h
 | (k,f)::ss,(k',o')::os,j,o,hn,⟨h1,h2⟩,h=>by
  obtain rfl:k=k':=h1.1;simp only[nodupK,Bool.and_eq_true,Bool.not_eq_true',List.any_eq_false]at hn;rw[hC];rcases List.mem_cons.1 h with h | h
  ·cases h;rw[if_pos rfl]
  ·have hk:k≠j:=fun e=>by
    obtain⟨x,hx,hxe,_⟩:=iG h2 h;have:=hn.1 x hx;rw[hxe]at this
    simp only at this
    rw[e]at this;simp[bT]at this
   rw[if_neg hk];exact vE hn.2 h2 h
 | [],_::_,_,_,_,h,_=>h.elim
 | _::_,[],_,_,_,h,_=>h.elim
end Go.Proofs.YthdgahpomhnidaaGreat.Mx
namespace Go.Proofs.YthdgahpomhnidaaGreat.Mx
open Go
universe u
variable {P:Program}
theorem Mem.sub{mt:Nat→Prop}{g:Gh}{H H':HF}{hp:HP}(M:Mem mt g H hp)(h:∀n o,H' n=some o→H n=some o):Mem mt g H' hp :=
 ⟨fun n o k=>M.obj n o (h n o k),fun n o Q b k=>M.own n o Q b (h n o k),fun n o Q b k=>M.bF n o Q b (h n o k),fun n m o o' Q R b e k k'=>M.sep n m o o' Q R b e (h n o k) (h m o' k'),M.ro⟩
theorem kc:∀(f:Nat) (t:List Nat) (acc:aK) (base:Nat) (H H':HF) (fp fp':FP) (a:aK),(∀n o,hget acc n=some o→H n=some o)→(collect f t acc).eval base H fp=some (a,H',fp')→H'=H∧∀n o,hget a n=some o→H n=some o
 | 0,t,acc,base,H,H',fp,fp',a,_,h=>by cases h
 | f+1,[],acc,base,H,H',fp,fp',a,hacc,h=>by
  simp only[collect,MA.eval,Option.some.injEq,Prod.mk.injEq]at h;obtain⟨rfl,rfl,_⟩:=h;exact⟨rfl,hacc⟩
 | f+1,n::t,acc,base,H,H',fp,fp',a,hacc,h=>by
  unfold collect at h;split at h
  ·exact kc f t acc base H H' fp fp' a hacc h
  ·simp only[MA.eval]at h
   cases ho:H n with
   | none=>rw[ho]at h;cases h
   | some o =>
    rw[ho]at h;refine kc f _ _ base H H' _ fp' a (fun k q hk=>?_) h
    rw[hC]at hk
    by_cases e:n=k
    ·rw[if_pos e]at hk;cases hk;rw[←e];exact ho
    ·rw[if_neg e]at hk;exact hacc k q hk
theorem mO{a b:Nat}(h:Nat.blt a b=true):a<b:=Nat.le_of_ble_eq_true h
theorem jM{m:Nat}{h:aK}:∀(l:List (Nat×Option Nat)),okAsg m h l=true→∀j x,aget l j=some x→j<m∧∀n,x=some n→hget h n≠none
 | [],_,j,x,hx=>by cases hx
 | (k,none)::r,hl,j,x,hx=>by
  simp only[okAsg]at hl;cases hb:Nat.blt k m with
  | false=>rw[hb]at hl;cases hl
  | true =>
   rw[hb]at hl;rw[bH]at hx
   by_cases e:k=j
   ·rw[if_pos e]at hx;cases hx;exact⟨e▸mO hb,fun n hn=>by cases hn⟩
   ·rw[if_neg e]at hx;exact jM r hl j x hx
 | (k,some n)::r,hl,j,x,hx=>by
  simp only[okAsg]at hl;cases ho:hget h n with
  | none=>rw[ho]at hl;cases hl
  | some o =>
   rw[ho]at hl;cases hb:Nat.blt k m with
   | false=>rw[hb]at hl;cases hl
   | true =>
    rw[hb]at hl;rw[bH]at hx
    by_cases e:k=j
    ·rw[if_pos e]at hx;cases hx;exact⟨e▸mO hb,fun n' hn=>by cases hn;rw[ho];simp⟩
    ·rw[if_neg e]at hx;exact jM r hl j x hx
theorem pA:∀{l:List (Nat×Option Nat)} {j:Nat} {x:Option Nat},aget l j=some x→(j,x)∈l
 | [],j,x,h=>by cases h
 | (k,y)::l,j,x,h=>by
  rw[bH]at h
  by_cases e:k=j
  ·rw[if_pos e]at h;cases h;subst e;exact List.mem_cons_self
  ·rw[if_neg e]at h;exact List.mem_cons_of_mem _ (pA h)
section
variable {base:Nat} {H':HF} {fp':FP} {v:SV}
theorem ja{kp:List (Nat×Option Nat)}{h:aK}{k:MA SV}:∀(ax:List (Nat×Option Nat)) (H:HF) (fp:FP),(strike kp h ax k).eval base H fp=some (v,H',fp') →
  ∃H1 fp1,k.eval base H1 fp1=some (v,H',fp')∧(∀n,H1 n=H n∨H1 n=none)∧∀j n,(j,some n)∈ax→(aget kp j=none∨hget h j=none)→H1 n=none
 | [],H,fp,hk=>⟨H,fp,hk,fun n=>.inl rfl,fun j n h=>by cases h⟩
 | (j,none)::ax,H,fp,hk=>by
  obtain⟨H1,fp1,h1,h2,h3⟩:=ja ax H fp (show (strike kp h ax k).eval base H fp=_ from hk)
  refine⟨H1,fp1,h1,h2,fun i n hm hn=>h3 i n ?_ hn⟩
  rcases List.mem_cons.1 hm with e | hm
  ·cases e
  ·exact hm
 | (j,some m)::ax,H,fp,hk=>by
  unfold strike at hk;split at hk
  ·rename_i x o hx ho
   obtain⟨H1,fp1,h1,h2,h3⟩:=ja ax H fp hk;refine⟨H1,fp1,h1,h2,fun i n hm hn=>?_⟩
   rcases List.mem_cons.1 hm with e | hm
   ·cases e;rcases hn with hn | hn
    ·rw[hx]at hn;cases hn
    ·rw[ho]at hn;cases hn
   ·exact h3 i n hm hn
  ·obtain⟨fp2,h0⟩:=pC hk
   obtain⟨H1,fp1,h1,h2,h3⟩:=ja ax _ _ h0;refine⟨H1,fp1,h1,fun n=>?_,fun i n hm hn=>?_⟩
   ·rcases h2 n with q | q
    ·by_cases e:n=m
     ·rw[e,aS]at q;exact .inr (e▸q)
     ·rw[aR _ _ e]at q;exact .inl q
    ·exact .inr q
   ·rcases List.mem_cons.1 hm with e | hm
    ·cases e
     rcases h2 m with q | q
     ·rw[aS]at q;exact q
     ·exact q
    ·exact h3 i n hm hn
theorem o6{au:List Nat}:∀(l:List (Nat×Option Nat)) (j:Nat),aget (kept au l) j=if j∈au then aget l j else none
 | [],j=>by simp[kept,aget]
 | (k,x)::l,j=>by
  simp only[kept];cases hb:au.any (Nat.beq k) with
  | true =>
   simp only
   rw[bH,bH,o6 l j]
   by_cases e:k=j
   ·subst e
    have hm:k∈au:=by
     obtain⟨y,h1,h2⟩:=List.any_eq_true.1 hb;rw[beq_eq h2];exact h1
    simp[hm]
   ·simp only[if_neg e]
  | false =>
   simp only
   rw[bH,o6 l j]
   by_cases e:k=j
   ·subst e
    have hm:¬k∈au:=fun hm=>by
     have:au.any (Nat.beq k)=true:=List.any_eq_true.2 ⟨k,hm,bT k⟩;rw[hb]at this;cases this
    simp[hm]
   ·rw[if_neg e]
theorem rH{b:Nat}{ax:List (Nat×Option Nat)}{j n:Nat}(h:aget ax j=some (some n)):mu b ax j=n:=by simp only[mu,h]
theorem pU{b:Nat}{ax:List (Nat×Option Nat)}{j:Nat}(h:∀n,aget ax j≠some (some n)):mu b ax j=b+j:=by
 unfold mu;split
 ·rename_i n hn;exact absurd hn (h n)
 ·rfl
theorem ox{ax:List (Nat×Option Nat)}{μ:Nat→Nat}{k:MA SV}:∀(h:aK) (H:HF) (fp:FP),(layObs μ ax h k).eval base H fp=some (v,H',fp') →
  ∃H1 fp1,k.eval base H1 fp1=some (v,H',fp')∧∀n,(∃j o,(j,o)∈h∧mu base ax j=n∧H1 n=some (mi μ o))∨((∀j o,(j,o)∈h→mu base ax j≠n)∧H1 n=H n)
 | [],H,fp,hk=>⟨H,fp,hk,fun n=>.inr ⟨fun j o h=>(by cases h),rfl⟩⟩
 | (j,o)::h,H,fp,hk=>by
  have fin:∀H0 fp0 q,H0=eQ H q (some (mi μ o))→mu base ax j=q→(layObs μ ax h k).eval base H0 fp0=some (v,H',fp') →
    ∃H1 fp1,k.eval base H1 fp1=some (v,H',fp')∧∀n,(∃j' o',(j',o')∈(j,o)::h∧mu base ax j'=n∧H1 n=some (mi μ o'))∨((∀j' o',(j',o')∈(j,o)::h→mu base ax j'≠n)∧H1 n=H n):=fun H0 fp0 q hH0 hq hk=>by
   obtain⟨H1,fp1,h1,h2⟩:=ox h H0 fp0 hk;refine⟨H1,fp1,h1,fun n=>?_⟩
   rcases h2 n with ⟨j',o',h3,h4,h5⟩ | ⟨h3,h4⟩
   ·exact .inl ⟨j',o',List.mem_cons_of_mem _ h3,h4,h5⟩
   ·by_cases e:n=q
    ·rw[e,hH0,aS]at h4;exact .inl ⟨j,o,List.mem_cons_self,by rw[hq,e],by rw[e];exact h4⟩
    ·rw[hH0,aR _ _ e]at h4
     refine .inr ⟨fun j' o' hm=>?_,h4⟩
     rcases List.mem_cons.1 hm with hm | hm
     ·cases hm;rw[hq];exact Ne.symm e
     ·exact h3 j' o' hm
  unfold layObs at hk;split at hk
  ·rename_i n hn
   simp only[MA.eval]at hk;cases ho:H n with
   | none=>rw[ho]at hk;cases hk
   | some o1=>rw[ho]at hk;exact fin _ _ n rfl (rH hn) hk
  ·rename_i hn
   obtain⟨fp2,h1,h2,h3⟩:=gI hk;exact fin _ _ (base+j) rfl (pU fun n e=>hn n e) h3
theorem uK{kp ax:List (Nat×Option Nat)}{s:Shape}{r:s.X}{H:HF}{fp:FP}{as:List (Nat×AV)}{os:aK}(L:Laid s r as os)(h:(oq kp ax s r).eval base H fp=some (v,H',fp')) :
  v=fG (as.map fun a=>(a.1,nt (mu base kp) a.2))∧∃H1:HF,(∀n,H1 n=H n∨H1 n=none)∧(∀j n,(j,some n)∈ax→(aget kp j=none∨hget os j=none)→H1 n=none) ∧
   ∀n,(∃j o,(j,o)∈os∧mu base kp j=n∧H' n=some (mi (mu base kp) o))∨((∀j o,(j,o)∈os→mu base kp j≠n)∧H' n=H1 n):=by
 have h1:(s.bZ r fun as h=>strike kp h ax (layObs (mu base kp) kp h (.pure (fG (as.map fun a=>(a.1,nt (mu base kp) a.2)))))).eval base H fp=some (v,H',fp'):=h
 rw[L.Gk]at h1;obtain⟨H1,fp1,h2,h3,h4⟩:=ja ax H fp h1;obtain⟨H2,fp2,k1,k2⟩:=ox os H1 fp1 h2;simp only[MA.eval,Option.some.injEq,Prod.mk.injEq]at k1;obtain⟨rfl,rfl,_⟩:=k1;exact⟨rfl,H1,h3,h4,k2⟩
end
def kR(w:World)(g:Gh)(H:HF)(d:DS)(b:Nat):Prop:=w.heap.size≤b∨∃j n o Q,aget d.ax j=some (some n)∧H n=some o∧o.dA=false∧g.φ n=some Q∧Q.bJ=some b
def hZ(base:Nat)(ro:Nat→Prop)(g g':Gh):Gh:=⟨fun n=>if base≤n∧n<base+keys then g'.φ (n-base) else g.φ n,ro⟩
theorem Au{g g':Gh}{hp:HP}{μ:Nat→Nat}{as:List (Nat×AV)}{V:Value}(h:∀a,a∈as→∀v,bI g hp a.2 v→bI g' hp (nt μ a.2) v)(hv:aV g hp (fG as) V):aV g' hp (fG (as.map fun a=>(a.1,nt μ a.2))) V:=by
 have tup:∀(l:List (Nat×AV)) (vs:List Value),(∀a,a∈l→∀v,bI g hp a.2 v→bI g' hp (nt μ a.2) v)→All2 (bI g hp) (l.map (·.2)) vs→All2 (bI g' hp) ((l.map fun a=>(a.1,nt μ a.2)).map (·.2)) vs:=by
  intro l
  induction l with
  | nil=>intro vs _ h;cases vs with | nil=>trivial | cons _ _=>exact h.elim
  | cons a l ih =>
   intro vs hl h;cases vs with
   | nil=>exact h.elim
   | cons v vs=>exact⟨hl a List.mem_cons_self v h.1,ih vs (fun b hb=>hl b (List.mem_cons_of_mem _ hb)) h.2⟩
 match as,h,hv with
 | [],_,hv =>
  obtain⟨vs,h1,h2⟩:=hv;exact⟨vs,h1,tup [] vs (fun a ha=>by cases ha) h2⟩
 | [a],h,hv=>exact h a List.mem_cons_self V hv
 | a::b::r,h,hv =>
  obtain⟨vs,h1,h2⟩:=hv;exact⟨vs,h1,tup (a::b::r) vs h h2⟩
section
variable {mt:Nat→Prop} {g:Gh} {H:HF} {w:World} {base:Nat}
theorem se{au:List Nat}{hS:aK}{s so:Shape}{d:DS}{gA:Nat→Option AV}{x:s.X}{xas:List (Nat×AV)}{xos:aK}{r:so.X}{as:List (Nat×AV)}{os:aK}{g':Gh}{w':World}{V:Value}{v:SV}{H':HF}{fp fp':FP}
  (M:Mem mt g H w.heap) (hm:∀b,w.heap.size≤b→mt b) (hf:∀n,base≤n→n<base+keys→g.φ n=none)
  (hsub:∀n o,hget hS n=some o→H n=some o) (R:Read s [] (hget hS) gA x d xas xos) (hok:okAsg (db s.ob 0) hS d.ax=true) (hwf:so.wf=true) (hfl:d.cB=[]∨so.flat=true)
  (L:Laid so r as os) (E:Ext (kR w g H d) (gK au (gE s d g)) w g' w') (M':Mem (kR w g H d) g' (hget os) w'.heap) (hv:aV g' w'.heap (fG as) V)
  (hev:(oq (kept au d.ax) d.ax so r).eval base H fp=some (v,H',fp')):aY mt g w base H' v V w':=by
 obtain⟨rfl,H1,k1,k2,k3⟩:=uK L hev;simp only[Shape.wf,Bool.and_eq_true]at hwf;obtain⟨⟨hnd,hobs⟩,hsls⟩:=hwf;have MS:Mem mt g (hget hS) w.heap:=M.sub hsub;have hgE:∀b,g.ro b→(gE s d g).ro b:=fun b h=>.inl h
 have hmt:∀b,kR w g H d b→mt b:=fun b h=>by
  rcases h with h | ⟨j,n,o,Q,h1,h2,h3,h4,h5⟩
  ·exact hm b h
  ·exact(M.own n o Q b h2 h3 h4 h5).1
 obtain⟨dr,hro1,hro2,hro3⟩:∃dr:Nat→Prop,(∀b,g.ro b→dr b)∧(∀b,dr b→g'.ro b∧((gE s d g).ro b→g.ro b))∧(dr=g'.ro∨so.flat=true):=by
  rcases hfl with h0 | h0
  ·refine⟨g'.ro,fun b h=>E.ro b (hgE b h),fun b h=>⟨h,fun h2=>?_⟩,.inl rfl⟩
   rcases h2 with h2 | ⟨n,hn,_⟩
   ·exact h2
   ·rw[h0]at hn;cases hn
  ·exact⟨g.ro,fun b h=>h,fun b h=>⟨E.ro b (hgE b h),fun _=>h⟩,.inr h0⟩
 have hroM:∀b,dr b→g.ro b∨kR w g H d b:=fun b hb=>by
  obtain⟨h1,h2⟩:=hro2 b hb;exact(E.dr b h1).imp h2 id
 have kget:∀j x,aget (kept au d.ax) j=some x→j∈au∧aget d.ax j=some x:=fun j x h=>by
  rw[o6]at h;split at h
  ·rename_i hk;exact⟨hk,h⟩
  ·cases h
 have hmu:∀j Q,j<keys→g'.φ j=some Q→(hZ base dr g g').φ (mu base (kept au d.ax) j)=some Q:=fun j Q hj hQ=>by
  cases ha:aget (kept au d.ax) j with
  | none =>
   rw[pU (fun n e=>by rw[ha]at e;cases e)]
   simp only[hZ];rw[if_pos ⟨Nat.le_add_right _ _,by omega⟩,Nat.add_sub_cancel_left]
   exact hQ
  | some y =>
   cases y with
   | none =>
    rw[pU (fun n e=>by rw[ha]at e;cases e)]
    simp only[hZ];rw[if_pos ⟨Nat.le_add_right _ _,by omega⟩,Nat.add_sub_cancel_left]
    exact hQ
   | some n =>
    rw[rH ha];obtain⟨hkp,ha'⟩:=kget j _ ha;obtain⟨_,h2⟩:=jM d.ax hok j _ ha';cases ho:hget hS n with
    | none=>exact absurd ho (h2 n rfl)
    | some o =>
     obtain⟨Q',hQ',_⟩:=MS.obj n o ho;have h3:=E.jm j Q' (by show (if j∈au then _ else none)=_;rw[if_pos hkp,fB ha'];exact hQ')
     rw[hQ]at h3;cases h3;simp only[hZ];rw[if_neg]
     ·exact hQ'
     ·rintro ⟨h4,h5⟩;rw[hf n h4 h5]at hQ';cases hQ'
 have hkeep:∀b,b<w.heap.size→(¬kR w g H d b∨g.ro b)→w'.heap[b]?=w.heap[b]?:=fun b h1 h2=>E.au b h1 (h2.imp id (hgE b))
 have ext:Ext mt g w (hZ base dr g g') w':=by
  refine⟨E.os,E.tape,E.output,E.size,fun b h1 h2=>hkeep b h1 (h2.imp (fun q q'=>q (hmt b q')) id),hro1,fun b hb=>(hroM b hb).imp id (hmt b),fun n Q hQ=>?_⟩
  simp only[hZ];rw[if_neg]
  ·exact hQ
  ·rintro ⟨h4,h5⟩;rw[hf n h4 h5]at hQ;cases hQ
 have st:cA g w.heap (hZ base dr g g') w'.heap:=ext.aL M.ro;have new:∀j o,(j,o)∈os→j<keys∧hget os j=some o∧o.dA=false∧(∀i,i∈refsO o→i<keys)∧(so.flat=true→vk o=true):=fun j o hjo=>by
  obtain⟨y,hy,h1,h2⟩:=iG L.ob hjo;have h3:(Nat.blt y.1 keys&&CI y.2)=true:=List.all_eq_true.1 hobs y hy;simp only[Bool.and_eq_true]at h3;have h1':y.1=j:=h1;refine⟨by rw[←h1'];exact mO h3.1,vE hnd L.ob hjo,h2.live,h2.refs h3.2,fun hfl=>?_⟩
  simp only[Shape.flat,Bool.and_eq_true]at hfl;exact h2.plain (List.all_eq_true.1 hfl.2 y hy)
 have gro:∀p:Bool,(so.flat=true→p=true)→p=true∨(hZ base dr g g').ro=g'.ro:=fun p hp=>hro3.elim .inr fun h=>.inl (hp h)
 have view:∀n o,H' n=some o→(∃j o1,(j,o1)∈os∧mu base (kept au d.ax) j=n∧o=mi (mu base (kept au d.ax)) o1)∨(H n=some o∧∀j,aget d.ax j≠some (some n)):=fun n o hn=>by
  rcases k3 n with ⟨j,o1,h1,h2,h3⟩ | ⟨h1,h2⟩
  ·rw[hn]at h3;cases h3;exact .inl ⟨j,o1,h1,h2,rfl⟩
  ·rw[hn]at h2
   refine .inr ⟨?_,fun j hj=>?_⟩
   ·rcases k1 n with q | q
    ·rw[←q];exact h2.symm
    ·rw[q]at h2;cases h2
   ·cases hkp:aget (kept au d.ax) j with
    | none=>rw[k2 j n (pA hj) (.inl hkp)]at h2;cases h2
    | some y =>
     have:=(kget j y hkp).2;rw[hj]at this;cases this;cases ho:hget os j with
     | none=>rw[k2 j n (pA hj) (.inr ho)]at h2;cases h2
     | some o2=>exact h1 j o2 (uE ho) (rH hkp)
 have dA:∀o,(mi (mu base (kept au d.ax)) o).dA=o.dA:=fun o=>by cases o<;>rfl
 have oldφ:∀n o Q,H n=some o→(hZ base dr g g').φ n=some Q→g.φ n=some Q:=fun n o Q hn hQ=>by
  obtain⟨Q',hQ',_⟩:=M.obj n o hn;have:=ext.jm n Q' hQ';rw[hQ]at this;cases this;exact hQ'
 have newφ:∀j o Q,(j,o)∈os→(hZ base dr g g').φ (mu base (kept au d.ax) j)=some Q→g'.φ j=some Q:=fun j o Q hj hQ=>by
  obtain⟨h1,h2,_⟩:=new j o hj;obtain⟨Q',hQ',_⟩:=M'.obj j o h2;have:=hmu j Q' h1 hQ';rw[hQ]at this;cases this;exact hQ'
 have az:∀n o Q b,H n=some o→(∀j,aget d.ax j≠some (some n))→g.φ n=some Q→Q.bJ=some b→¬kR w g H d b:=fun n o Q b hn hno hQ hb hmo=>by
  rcases hmo with h | ⟨j,n',o',Q',h1,h2,h3,h4,h5⟩
  ·obtain⟨Q',hQ',hO⟩:=M.obj n o hn
   rw[hQ]at hQ';cases hQ';exact absurd (hO.lt b hb) (Nat.not_lt.2 h)
  ·exact M.sep n n' o o' Q Q' b (fun e=>hno j (by rw[e];exact h1)) hn h2 hQ h4 hb h5
 refine⟨hZ base dr g g',ext,fun n hn=>if_neg hn,?_,?_⟩
 ·refine⟨fun n o hn=>?_,fun n o Q b hn hi hQ hb=>?_,fun n o Q b hn hi hQ hb=>?_,fun n m o o' Q Q' b hnm hn hm' hQ hQ' hb=>?_,fun b hb=>?_⟩
  ·rcases view n o hn with ⟨j,o1,h1,rfl,rfl⟩ | ⟨h1,h2⟩
   ·obtain⟨a1,a2,a3,a4,a5⟩:=new j o1 h1
    obtain⟨Q,hQ,hO⟩:=M'.obj j o1 a2;exact⟨Q,hmu j Q a1 hQ,fk.mF (fun i R hi hR=>hmu i R (a4 i hi) hR) (gro _ a5) hO⟩
   ·obtain⟨Q,hQ,hO⟩:=M.obj n o h1
    refine⟨Q,ext.jm n Q hQ,hO.aL st fun b hb=>?_⟩
    exact hkeep b (hO.lt b hb) (.inl (az n o Q b h1 h2 hQ hb))
  ·rcases view n o hn with ⟨j,o1,h1,rfl,rfl⟩ | ⟨h1,h2⟩
   ·obtain⟨a1,a2,a3,a4,a5⟩:=new j o1 h1
    obtain⟨b1,b2⟩:=M'.own j o1 Q b a2 a3 (newφ j o1 Q h1 hQ) hb;exact⟨hmt b b1,fun h=>b2 (hro2 b h).1⟩
   ·have hQ':=oldφ n o Q h1 hQ
    obtain⟨b1,b2⟩:=M.own n o Q b h1 hi hQ' hb;exact⟨b1,fun h=>(hroM b h).elim b2 (az n o Q b h1 h2 hQ' hb)⟩
  ·rcases view n o hn with ⟨j,o1,h1,rfl,rfl⟩ | ⟨h1,h2⟩
   ·rw[dA,(new j o1 h1).2.2.1]at hi;cases hi
   ·exact hro1 b (M.bF n o Q b h1 hi (oldφ n o Q h1 hQ) hb)
  ·rcases view n o hn with ⟨j,o1,h1,rfl,rfl⟩ | ⟨h1,h2⟩
   ·obtain⟨a1,a2,a3,a4,a5⟩:=new j o1 h1
    have hQj:=newφ j o1 Q h1 hQ;rcases view m o' hm' with ⟨i,o2,c1,rfl,rfl⟩ | ⟨c1,c2⟩
    ·exact M'.sep j i o1 o2 Q Q' b (fun e=>hnm (by rw[e])) a2 (new i o2 c1).2.1 hQj (newφ i o2 Q' c1 hQ') hb
    ·intro hb'
     exact az m o' Q' b c1 c2 (oldφ m o' Q' c1 hQ') hb' (M'.own j o1 Q b a2 a3 hQj hb).1
   ·have hQn:=oldφ n o Q h1 hQ
    rcases view m o' hm' with ⟨i,o2,c1,rfl,rfl⟩ | ⟨c1,c2⟩
    ·intro hb'
     obtain⟨a1,a2,a3,_⟩:=new i o2 c1;exact az n o Q b h1 h2 hQn hb (M'.own i o2 Q' b a2 a3 (newφ i o2 Q' c1 hQ') hb').1
    ·exact M.sep n m o o' Q Q' b hnm h1 c1 hQn (oldφ m o' Q' c1 hQ') hb
  ·exact M'.ro b (hro2 b hb).1
 ·refine Au (fun a ha v hav=>?_) hv
  obtain⟨y,hy,h1,h2⟩:=iG L.sl ha;refine bI.mF (fun i R hi hR=>hmu i R (h2.refs (List.all_eq_true.1 hsls y hy) i hi) hR) (gro _ fun hfl=>?_) hav
  simp only[Shape.flat,Bool.and_eq_true]at hfl;exact h2.plain (List.all_eq_true.1 hfl.1 y hy)
theorem oW{au:List Nat}{hS:aK}{s:Shape}{d:DS}{gA:Nat→Option AV}{x:s.X}{xas:List (Nat×AV)}{xos:aK}{w':World}{V:Value}{v:SV}{H':HF}{fp fp':FP}
  (M:Mem mt g H w.heap) (hm:∀b,w.heap.size≤b→mt b) (hf:∀n,base≤n→n<base+keys→g.φ n=none)
  (hsub:∀n o,hget hS n=some o→H n=some o) (R:Read s [] (hget hS) gA x d xas xos) (hok:okAsg (db s.ob 0) hS d.ax=true):∀(ss:List Shape) (r:iv ss),ss.all Shape.wf=true→(d.cB=[]∨ss.all Shape.flat=true) →
  kV ss r (fun _ as os=>∃g',Ext (kR w g H d) (gK au (gE s d g)) w g' w'∧Mem (kR w g H d) g' (hget os) w'.heap∧aV g' w'.heap (fG as) V) →
  (finish (kept au d.ax) d.ax ss r).eval base H fp=some (v,H',fp')→aY mt g w base H' v V w'
 | [],r,_,_,hO,_=>hO.elim
 | [so],r,hwf,hfl,hO,hev=>by
  obtain⟨as,os,L,g',E,M',hv⟩:=hO;simp only[List.all_cons,List.all_nil,Bool.and_true]at hwf hfl;exact se M hm hf hsub R hok hwf hfl L E M' hv hev
 | so::t::ss,r,hwf,hfl,hO,hev=>by
  simp only[List.all_cons,Bool.and_eq_true]at hwf hfl;cases r with
  | inl y =>
   obtain⟨as,os,L,g',E,M',hv⟩:=hO;exact se M hm hf hsub R hok hwf.1 (hfl.imp id fun h=>h.1) L E M' hv hev
  | inr y =>
   exact oW M hm hf hsub R hok (t::ss) y (by simp only[List.all_cons,Bool.and_eq_true];exact hwf.2) (hfl.imp id fun h=>by simp only[List.all_cons,Bool.and_eq_true];exact h.2) hO hev
theorem All2.nth{α β:Type}{R:α→β→Prop}:∀{l:List α} {m:List β} {i:Nat} {x:α},All2 R l m→l[i]?=some x→∃y,m[i]?=some y∧R x y
 | [],_,i,x,_,h=>by simp at h
 | a::l,b::m,0,x,⟨h1,_⟩,h=>⟨b,rfl,by simp only[List.getElem?_cons_zero,Option.some.injEq]at h;exact h▸h1⟩
 | a::l,b::m,i+1,x,⟨_,h2⟩,h=>by simpa using All2.nth h2 (by simpa using h)
 | _::_,[],_,_,h,_=>h.elim
theorem DX{s:Shape}{d:DS}{x:s.X}{xas:List (Nat×AV)}{xos hS:aK}{args:List AV}{vs:List Value}{m:List Nat}(M:Mem mt g (hget hS) w.heap)(R:Read s m (hget hS) (nthA args) x d xas xos)(hv:All2 (bI g w.heap) args vs):ArgsR (gE s d g) w.heap xas vs.toArray:=by
 intro i a hia;obtain⟨y,hy,h1,h2,h3,h4⟩:=iG R.sl hia;obtain⟨u,hu,h5⟩:=hv.nth (pz _ _ _ h3);have:vs.toArray.getD i undef=u:=by simp[Array.getD_eq_getD_getElem?,hu]
 rw[this];exact jv.bI M h4 h5
theorem xQ{f:Nat}{S:ah}{args:List AV}{vs:List Value}{hS:aK}{m:MA SV}{v:SV}{H':HF}{fp fp':FP}(hs:Sound P f S)(M:Mem mt g H w.heap)(hm:∀b,w.heap.size≤b→mt b)(hf:∀n,base≤n→n<base+keys→g.φ n=none)
  (hsub:∀n o,hget hS n=some o→H n=some o) (hv:All2 (bI g w.heap) args vs) (hk:S.yd args hS=some m) (hev:m.eval base H fp=some (v,H',fp')) :
  dK P f vs.toArray w fun V w'=>aY mt g w base H' v V w':=by
 unfold ah.yd at hk;obtain⟨x,d,xas,xos,hk,R⟩:=Shape.cV hk;cases hok:okAsg (db S.ins.ob 0) hS d.ax with
 | false=>rw[hok]at hk;cases hk
 | true =>
  rw[hok]at hk;cases hfr:(Dq d.cB||S.outs.all Shape.flat) with
  | false=>rw[hfr]at hk;cases hk
  | true =>
   rw[hfr]at hk;simp only[Option.some.injEq]at hk;subst hk;have hfl:d.cB=[]∨S.outs.all Shape.flat=true:=by
    rcases Bool.or_eq_true_iff.1 hfr with h | h
    ·refine .inl ?_
     cases hd:d.cB with
     | nil=>rfl
     | cons _ _=>rw[hd]at h;cases h
    ·exact .inr h
   cases hr:S.f x with
   | none=>rw[hr]at hev;cases hev
   | some r =>
    rw[hr]at hev;have hev:(finish (kept S.au d.ax) d.ax S.outs r).eval base H fp=some (v,H',fp'):=hev;have MS:Mem mt g (hget hS) w.heap:=M.sub hsub;have ME:Mem (kR w g H d) (gE S.ins d g) (hget xos) w.heap:=R.mem MS hs.E7 fun j n o Q b h1 h2 h3 h4 h5=>.inr ⟨j,n,o,Q,h1,hsub n o h2,h3,h4,h5⟩
    refine(hs.call x r hr (kR w g H d) (gE S.ins d g) w vs.toArray xas xos ?_ ME (fun b hb=>.inl hb) (fun n hn=>?_) (DX MS R hv)).mono fun V w' hO=>?_
    ·obtain⟨as,os,L⟩:=Shape.laid S.ins x
     obtain⟨e1,e2⟩:=L.same R.j2;rw[e1,e2];exact L
    ·have:aget d.ax n=none:=by
      cases ha:aget d.ax n with
      | none=>rfl
      | some y=>exact absurd (jM d.ax hok n y ha).1 (Nat.not_lt.2 hn)
     simp only[gE,this]
    ·exact oW M hm hf hsub R hok S.outs r hs.C9 hfl hO hev
theorem oR{f:Nat}{args:List AV}{vs:List Value}{hS:aK}{v:SV}{H':HF}{fp fp':FP}(M:Mem mt g H w.heap)(hm:∀b,w.heap.size≤b→mt b)(hf:∀n,base≤n→n<base+keys→g.φ n=none)
  (hsub:∀n o,hget hS n=some o→H n=some o) (hv:All2 (bI g w.heap) args vs):∀(ss:List ah),(∀S,S∈ss→Sound P f S)→(tryAll args hS ss).eval base H fp=some (v,H',fp') →
  dK P f vs.toArray w fun V w'=>aY mt g w base H' v V w'
 | [],_,h=>by cases h
 | S::ss,hss,h=>by
  unfold tryAll at h;split at h
  ·rename_i m hk;exact xQ (hss S List.mem_cons_self) M hm hf hsub hv hk h
  ·exact oR M hm hf hsub hv ss (fun S hS=>hss S (List.mem_cons_of_mem _ hS)) h
theorem yL{f:Nat}{ss:List ah}{args:List AV}{vs:List Value}{v:SV}{H':HF}{fp fp':FP}(M:Mem mt g H w.heap)(hm:∀b,w.heap.size≤b→mt b)(hf:∀n,base≤n→n<base+keys→g.φ n=none)
  (hv:All2 (bI g w.heap) args vs) (hss:∀S,S∈ss→Sound P f S) (h:(tl ss args).eval base H fp=some (v,H',fp')):dK P f vs.toArray w fun V w'=>aY mt g w base H' v V w':=by
 unfold tl at h;rw[MA.eval_bind]at h;split at h
 ·rename_i hS H2 fp2 hc
  obtain⟨rfl,hsub⟩:=kc 64 _ [] base H H2 fp fp2 hS (fun n o h=>by cases h) hc
  exact oR M hm hf hsub hv ss hss h
 ·cases h
end
end Go.Proofs.YthdgahpomhnidaaGreat.Mx
namespace Go.Proofs.YthdgahpomhnidaaGreat.Mx
open Go
universe u
variable {P:Program}
def dk(P:Program)(E:Env):Prop:=bL P E.ti∧bK P E.eqs∧∀f S,S∈fnsOf E.fns f→Sound P f S
section
variable {mt:Nat→Prop} {g:Gh} {H H':HF} {w:World} {base:Nat} {fp fp':FP} {v:SV} {o:Oper} {a:Act} {E:Env} {sl:List SV}
theorem aT.makes{s:Sem Value}(he:execOp a.eval o=(do pure (.value (←s))))(h:jL P mt g H' w base v s):aT P o a w (aY mt g w base H' v):=by
 obtain⟨V,w',h1,h2⟩:=h;refine aT.value (V:=V) (w':=w') ?_ h2;rw[he,Sem.run_bind,h1];rfl
theorem aT.cC{s:Sem Value}(he:execOp a.eval o=(do pure (.value (←s))))(M:Mem mt g H w.heap)(h:bU P g H H' w v s):aT P o a w (aY mt g w base H' v):=aT.makes he (h.makes M)
theorem aT.B8{V:Value}(he:execOp a.eval o=pure (.value V))(M:Mem mt g H w.heap)(h:aV g w.heap v V):aT P o a w (aY mt g w base H v) :=
 aT.value (V:=V) (w':=w) (by rw[he];rfl) (aY.same M h)
theorem aT.unit{s:Sem Unit}(he:execOp a.eval o=(do s;pure .skip))(h:∃w',s.run P w=.ok () w'∧aY mt g w base H' v undef w'):aT P o a w (aY mt g w base H' v):=by
 obtain⟨w',h1,h2⟩:=h;refine aT.skip (w':=w') ?_ h2;rw[he,Sem.run_bind,h1];rfl
theorem ji{v0:SV}(h:(MA.pure v0).eval base H fp=some (v,H',fp')):v=v0∧H'=H:=by
 simp only[MA.eval,Option.some.injEq,Prod.mk.injEq]at h;exact⟨h.1.symm,h.2.1.symm⟩
theorem rM(h:dD g w.heap sl a):∀(ps:List (Nat×Operand)),All2 (tj g w.heap) (lI sl ps) (ps.map fun x=>(x.1,a.eval x.2))
 | []=>trivial
 | p::ps=>⟨⟨rfl,aM h p.2⟩,rM h ps⟩
theorem kv(h:dD g w.heap sl a):∀(ps:List Operand),All2 (aV g w.heap) (ps.map (rd sl)) (ps.map a.eval)
 | []=>trivial
 | p::ps=>⟨aM h p,kv h ps⟩
theorem vB{hp:HP}:∀{l:List SV} {vs:List Value} {as:List AV},All2 (aV g hp) l vs→argsOf l=some as→All2 (bI g hp) as vs
 | [],[],as,_,h=>by simp only[argsOf,Option.some.injEq]at h;subst h;trivial
 | .v x::l,v::vs,as,⟨h1,h2⟩,h=>by
  simp only[argsOf]at h;cases hr:argsOf l with
  | none=>rw[hr]at h;cases h
  | some r=>rw[hr]at h;simp only[Option.map_some,Option.some.injEq]at h;subst h;exact⟨h1,vB h2 hr⟩
 | .tup _::l,v::vs,as,_,h=>by simp[argsOf]at h
 | [],_::_,_,h,_=>h.elim
 | _::_,[],_,h,_=>h.elim
theorem vh{hp:HP}:∀{l:List SV} {vs:List Value} {ns:List Nat},All2 (aV g hp) l vs→keysOf l=some ns→All2 (jC g) ns vs
 | [],[],as,_,h=>by simp only[keysOf,Option.some.injEq]at h;subst h;trivial
 | x::l,v::vs,as,⟨h1,h2⟩,h=>by
  unfold keysOf at h;split at h
  ·rename_i e;cases e
  ·rename_i n l' e
   cases e;cases hr:keysOf l with
   | none=>rw[hr]at h;cases h
   | some r =>
    rw[hr]at h;simp only[Option.map_some,Option.some.injEq]at h;subst h;refine⟨?_,vh h2 hr⟩;obtain⟨Q,b,q1,q2,q3⟩:=h1;exact⟨Q,b,q1,q2,by rw[q3]⟩
  ·cases h
 | [],_::_,_,h,_=>h.elim
 | _::_,[],_,h,_=>h.elim
theorem An{hp:HP}:∀{ns:List Nat} {vs:List Value},All2 (jC g) ns vs→All2 (bI g hp) (ns.map fun n=>AV.c (.ptr n 0)) vs
 | [],[],_=>trivial
 | n::ns,v::vs,⟨⟨Q,b,h1,h2,h3⟩,hr⟩=>⟨⟨Q,b,h1,h2,h3⟩,An hr⟩
 | [],_::_,h=>h.elim
 | _::_,[],h=>h.elim
theorem zZ(F:∀f S,S∈fnsOf E.fns f→Sound P f S)(M:Mem mt g H w.heap)(hm:∀b,w.heap.size≤b→mt b)(hf:∀n,base≤n→n<base+keys→g.φ n=none)(hsl:dD g w.heap sl a){c:Call}{fo:Operand}(hop:o.op=.call c)(hc:c.callee=.value fo)
  {f:Nat} {js:List Nat} {as:List AV} (hfn:rd sl fo=.v (.c (.fn f js))) (has:argsOf (c.args.toList.map (rd sl))=some as)
  (h:(tl (fnsOf E.fns f) (as++js.map fun n=>.c (.ptr n 0))).eval base H fp=some (v,H',fp')):aT P o a w (aY mt g w base H' v):=by
 have h1:=aM hsl fo;rw[hfn]at h1;obtain⟨us,hus,hR⟩:=h1;have h2:=All2.append (vB (kv hsl c.args.toList) has) (An (hp:=w.heap) hR);have ex:(execOp a.eval o).run P w=(callFunc f (c.args.toList.map a.eval++us).toArray).run P w:=by
  unfold execOp;rw[hop];simp only[resolve,hc,hus,Deferred.ofValue,Sem.run_bind,Sem.run_pure,Result.andThen_ok,invoke]
  congr 2
  simp[←List.toArray_appendList]<;>apply Array.ext'<;>simp
 rcases yL (f:=f) M hm hf h2 (F f) h with ⟨k1,k2⟩ | ⟨V,w',k1,k2⟩
 ·exact aT.enter (by rw[ex,k1]) k2
 ·exact aT.value (by rw[ex,k1]) k2
theorem nJ(h:dD g w.heap sl a)(x:Option Operand):match x.map (rd sl),x.map a.eval with | none,none=>True | some y,some Y=>aV g w.heap y Y | _,_=>False:=by
 cases x with
 | none=>trivial
 | some x=>exact aM h x
set_option maxHeartbeats 1000000 in
theorem op_does(ok:dk P E)(M:Mem mt g H w.heap)(hm:∀b,w.heap.size≤b→mt b)(hf:∀n,base≤n→n<base+keys→g.φ n=none)(hsl:dD g w.heap sl a)
  (h:(opM E sl o.type o.op).eval base H fp=some (v,H',fp')):aT P o a w (aY mt g w base H' v):=by
 obtain⟨T,EQ,F⟩:=ok;obtain⟨dst,op,ty,pos,after,guard⟩:=o
 simp only at h
 cases op with
 | move x=>obtain⟨rfl,rfl⟩:=ji (base:=base) h;exact aT.B8 rfl M (aM hsl x)
 | assign x=>obtain⟨rfl,rfl⟩:=ji (base:=base) h;exact aT.B8 rfl M (aM hsl x)
 | pick c x y =>
  simp only[opM]at h;split at h
  ·rename_i t hc
   have h1:=aM hsl c;rw[hc]at h1;have h1:a.eval c=.bool t:=h1;rcases aW (base:=base) h with ⟨rfl,h⟩ | ⟨rfl,h⟩
   ·obtain⟨rfl,rfl⟩:=ji (base:=base) h
    exact aT.value (V:=a.eval x) (w':=w) (by simp[execOp,h1,asBool]) (aY.same M (aM hsl x))
   ·obtain⟨rfl,rfl⟩:=ji (base:=base) h
    exact aT.value (V:=a.eval y) (w':=w) (by simp[execOp,h1,asBool]) (aY.same M (aM hsl y))
  ·cases h
 | alloc e =>
  simp only[opM]at h;split at h
  ·rename_i i hi
   have ht:=T e i hi;obtain⟨z,hz,hrun⟩:=pI ht w;have hzV:All2 (VR g w.heap) i.zero z.cells.toList:=by rw[hz];exact nK g w.heap i.zero ht.F1
   obtain⟨V,w',k1,k2⟩:=uO (P:=P) (t:=e) M hm hf hzV h;refine aT.makes rfl ⟨V,w',?_,k2⟩;rw[←k1];unfold Instr.alloc;rw[Sem.run_bind,hrun];rfl
  ·cases h
 | box e x =>
  simp only[opM]at h;split at h
  ·rename_i i A hi hA
   cases hfit:fits (dG A) i.size with
   | false=>rw[hfit]at h;cases h
   | true =>
    rw[hfit]at h;have h1:=aM hsl x;rw[hA]at h1;simp only[fits,Bool.and_eq_true]at hfit;exact aT.makes rfl (uO (t:=e) M hm hf (lR h1 hfit.2) h)
  ·cases h
 | build t ps =>
  simp only[opM]at h;split at h
  ·rename_i i hi
   cases hagg:i.agg with
   | false=>rw[hagg]at h;cases h
   | true =>
    rw[hagg]at h
    simp only at h
    split at h
    ·rename_i cs hcs
     obtain⟨rfl,rfl⟩:=ji (base:=base) h;obtain⟨V,k1,k2⟩:=yj T (T t i hi) hagg (rM hsl ps.toList) hcs;refine aT.cC (s:=Instr.build t (ps.map fun(i,x)=>(i,a.eval x))) rfl M ⟨V,?_,k2,rfl⟩
     rw[←k1]
     congr 2
     apply Array.ext';simp
    ·cases h
  ·cases h
 | buildSlice t n ps =>
  obtain⟨i,e,j,et,h1,h2,h3,h4,h5,h6⟩:=kJ T h
  simp only at h6
  split at h6
  ·rename_i cs hcs
   cases hn:Nat.ble (n*j.size) 16777216 with
   | false=>rw[hn]at h6;cases h6
   | true =>
    rw[hn]at h6;obtain⟨V,w',k1,k2⟩:=buildSlice_does h2 h3 h4 h5 M hm hf (rM hsl ps.toList) hcs hn h6;refine aT.makes (s:=Instr.buildSlice t n (ps.map fun(i,x)=>(i,a.eval x))) rfl ⟨V,w',?_,k2⟩
    rw[←k1]
    congr 2
    apply Array.ext';simp
  ·cases h6
 | load t x =>
  simp only[opM]at h;split at h
  ·rename_i i hi
   obtain⟨V,h1,h2,rfl⟩:=sJ (T t i hi) M (aM hsl x) h;exact aT.cC rfl M ⟨V,h1,h2,rfl⟩
  ·cases h
 | store t x y =>
  simp only[opM]at h;split at h
  ·rename_i i hi
   cases hap:zl (rd sl x) with
   | false=>rw[hap]at h;exact aT.unit rfl (pZ (T t i hi) M (aM hsl x) (aM hsl y) h)
   | true =>
    rw[hap]at h;have h:((freezeM (rd sl y)).bind fun y=>storeM i (rd sl x) y).eval base H fp=some (v,H',fp'):=h
    rw[MA.eval_bind]at h;cases h1:(freezeM (rd sl y)).eval base H fp with
    | none=>rw[h1]at h;cases h
    | some z =>
     obtain⟨z,H1,fp1⟩:=z;rw[h1]at h;obtain⟨g1,e1,p1,M1,hz⟩:=vS M (aM hsl y) h1;obtain⟨w',k1,k2⟩:=pZ (T t i hi) M1 (aV.aL (e1.aL M.ro) _ _ (aM hsl x)) hz h;exact aT.unit rfl ⟨w',k1,aY.sH e1 p1 k2⟩
  ·cases h
 | nilCheck x =>
  have h:(kB (rd sl x)).eval base H fp=some (v,H',fp'):=h;have hs:∀ad,a.eval x=.pointer (some ad)→execOp a.eval ⟨dst,.nilCheck x,ty,pos,after,guard⟩=Pure.pure (.value (a.eval x)):=fun ad he=>by unfold execOp;simp only[he]
  obtain⟨V,h1,h2,rfl⟩:=sY (P:=P) (aM hsl x) hs h;exact aT.value h1 (aY.same M h2)
 | binOp op t x y z =>
  have h:(binM E.ti E.eqs op t (rd sl x) (rd sl y)).eval base H fp=some (v,H',fp'):=h;exact aT.cC rfl M (CK T EQ (aM hsl x) (aM hsl y) x y h)
 | unOp op t x =>
  have h:(unM op (rd sl x)).eval base H fp=some (v,H',fp'):=h;exact aT.cC rfl M (DC (aM hsl x) h)
 | convert s d x =>
  simp only[opM]at h;split at h
  ·rename_i i j hi hj
   exact aT.cC rfl M (AA T (T s i hi) (T d j hj) M (aM hsl x) h)
  ·cases h
 | makeFunc fn first captured =>
  cases fn with
  | func f =>
   have h:(match first.toList,keysOf (captured.toList.map (rd sl)) with
    | [],some ns=>ret (.fn f ns)
    | _,_=>.fail).eval base H fp=some (v,H',fp'):=h
   split at h
   ·rename_i ns hfi hks
    obtain⟨rfl,rfl⟩:=c7 h;have e1:first=#[]:=Array.ext' hfi
    subst e1;refine aT.B8 (V:=.func (.func f) #[] (captured.map a.eval)) (by simp[execOp,Instr.makeFunc]) M ⟨captured.toList.map a.eval,?_,vh (kv hsl captured.toList) hks⟩
    congr 1
    apply Array.ext';simp
   ·cases h
  | _=>cases h
 | makeSlice t l c =>
  obtain⟨i,e,j,et,h1,h2,h3,h4,h5,h6⟩:=kJ T h;exact aT.makes rfl (AG h2 h3 h4 h5 M hm hf (aM hsl l) (aM hsl c) h6)
 | slice t x lo hi mx =>
  cases mx with
  | some _=>cases h
  | none =>
   simp only[opM]at h;split at h
   ·rename_i i hi'
    split at h
    ·rename_i e hu
     split at h
     ·rename_i j hj
      cases hcut:(qe E.FF 1000000).isSome with
      | false=>rw[hcut]at h;exact aT.cC rfl M (yD (T t i hi') hu (T e j hj) M (aM hsl x) (nJ hsl lo) (nJ hsl hi) h)
      | true=>rw[hcut]at h;exact aT.makes rfl (BG (T t i hi') hu (T e j hj) M hf (aM hsl x) (nJ hsl lo) (nJ hsl hi) h)
     ·cases h
    ·rename_i len e hu
     split at h
     ·rename_i j hj
      exact aT.cC rfl M (tc (T t i hi') hu (T e j hj) (aM hsl x) (nJ hsl lo) (nJ hsl hi) h)
     ·cases h
    ·cases h
   ·cases h
 | fieldAddr s x f =>
  simp only[opM]at h;split at h
  ·rename_i i hi
   split at h
   ·rename_i fs hu
    split at h
    ·rename_i off t hfld
     split at h
     ·rename_i j hj
      cases hs:Nat.beq j.size 0 with
      | true=>rw[hs]at h;cases h
      | false=>rw[hs]at h;exact aT.cC rfl M (yI (T s i hi) hu hfld (T t j hj) hs (aM hsl x) h)
     ·cases h
    ·cases h
   ·cases h
  ·cases h
 | field s x f =>
  simp only[opM]at h;split at h
  ·rename_i i hi
   split at h
   ·rename_i fs hu
    split at h
    ·rename_i off t hfld
     split at h
     ·rename_i j cs hj hx
      split at h
      ·rename_i l hl
       have h1:=aM hsl x;rw[hx]at h1;exact aT.cC rfl M (vR (T s i hi) hu hfld (T t j hj) h1 hl h)
      ·cases h
     ·cases h
    ·cases h
   ·cases h
  ·cases h
 | indexAddr t x y =>
  simp only[opM]at h;split at h
  ·rename_i q hq
   split at h
   ·rename_i e hu
    split at h
    ·rename_i j hj
     exact aT.cC rfl M (tV (T t q hq) (T e j hj) (.inl hu) M (aM hsl x) (aM hsl y) h)
    ·cases h
   ·rename_i n e hu
    split at h
    ·rename_i j hj
     exact aT.cC rfl M (tV (T t q hq) (T e j hj) (.inr ⟨n,hu⟩) M (aM hsl x) (aM hsl y) h)
    ·cases h
   ·cases h
  ·cases h
 | index t x y =>
  simp only[opM]at h;split at h
  ·rename_i q hq
   split at h
   ·rename_i n e hu
    split at h
    ·rename_i j hj
     exact aT.cC rfl M (si (T t q hq) (T e j hj) (.inr ⟨n,hu⟩) (aM hsl x) (aM hsl y) h)
    ·cases h
   ·rename_i hu
    exact aT.cC rfl M (si (e:=t) (T t q hq) (T t q hq) (.inl hu) (aM hsl x) (aM hsl y) h)
   ·cases h
  ·cases h
 | makeInterface t x =>
  simp only[opM]at h;split at h
  ·rename_i i hi
   cases ha:i.agg with
   | false=>rw[ha]at h;cases h
   | true=>rw[ha]at h;exact aT.makes rfl (Aj (uq (T t i hi) ha) M (aM hsl x) h)
  ·cases h
 | typeAssert x xT t ok =>
  simp only[opM]at h;split at h
  ·rename_i i hi
   cases ha:i.agg with
   | false=>rw[ha]at h;cases h
   | true =>
    cases ok with
    | false=>rw[ha]at h;cases h
    | true=>rw[ha]at h;exact aT.cC rfl M (vW (T t i hi) ha (aM hsl x) h)
  ·cases h
 | extract t i =>
  have h:(tupM i (rd sl t)).eval base H fp=some (v,H',fp'):=h;exact aT.cC rfl M (Bm (aM hsl t) h)
 | call c =>
  obtain⟨callee,args,argTypes⟩:=c;cases callee with
  | value fo =>
   simp only[opM]at h;split at h
   ·rename_i f js as hfn has
    exact zZ F M hm hf hsl (c:=⟨.value fo,args,argTypes⟩) rfl rfl hfn has h
   ·cases h
  | invoke r n=>cases h
  | builtin b =>
   have hb:execOp a.eval ⟨dst,.call ⟨.builtin b,args,argTypes⟩,ty,pos,after,guard⟩=builtin b argTypes ty (args.map fun | .const _=>true | _=>false) (args.map a.eval):=rfl
   have hargs:args.map a.eval=(args.toList.map a.eval).toArray:=by apply Array.ext';simp
   cases b with
   | len =>
    simp only[opM]at h;split at h
    ·rename_i t x ht hx
     split at h
     ·rename_i i hi
      have e1:argTypes=#[t]:=Array.ext' ht;have e2:args=#[x]:=Array.ext' hx;subst e1 e2;have e3:(#[x]:Array Operand).map a.eval=#[a.eval x]:=by simp
      rw[e3]at hb;exact aT.cC hb M (Bs (T t i hi) M (aM hsl x) h)
     ·cases h
    ·cases h
   | cap =>
    simp only[opM]at h;split at h
    ·rename_i t x ht hx
     split at h
     ·rename_i i hi
      split at h
      ·rename_i e hu
       have e1:argTypes=#[t]:=Array.ext' ht;have e2:args=#[x]:=Array.ext' hx;subst e1 e2;have e3:(#[x]:Array Operand).map a.eval=#[a.eval x]:=by simp
       rw[e3]at hb;exact aT.cC hb M (Ck (T t i hi) hu (aM hsl x) h)
      ·cases h
     ·cases h
    ·cases h
   | append =>
    simp only[opM]at h;split at h
    ·rename_i t t' x y ht hx
     cases htt:Nat.beq t t' with
     | false =>
      rw[htt]at h;have e1:argTypes=#[t,t']:=Array.ext' ht;have e2:args=#[x,y]:=Array.ext' hx;subst e1 e2;have e3:(#[x,y]:Array Operand).map a.eval=#[a.eval x,a.eval y]:=by simp
      rw[e3]at hb
      simp only at h
      split at h
      ·rename_i i' hi'
       split at h
       ·rename_i hu'
        obtain⟨i,e,j,et,h1,h2,h3,h4,h5,h6⟩:=kJ T h;exact aT.makes hb (qk h2 h3 (T t' i' hi') hu' h4 h5 M hm hf (aM hsl x) (aM hsl y) h6)
       ·cases h
      ·cases h
     | true =>
      rw[htt]at h;obtain rfl:=beq_eq htt;have e1:argTypes=#[t,t]:=Array.ext' ht;have e2:args=#[x,y]:=Array.ext' hx;subst e1 e2;have e3:(#[x,y]:Array Operand).map a.eval=#[a.eval x,a.eval y]:=by simp
      rw[e3]at hb;obtain⟨i,e,j,et,h1,h2,h3,h4,h5,h6⟩:=kJ T h;exact aT.makes hb (wa h2 h3 h4 h5 M hm hf (aM hsl x) (aM hsl y) h6)
    ·cases h
   | min=>exact aT.cC (hb.trans (by rw[hargs];rfl)) M (B4 (ts:=argTypes) (ty:=ty) (kv hsl args.toList) h)
   | max=>exact aT.cC (hb.trans (by rw[hargs];rfl)) M (Cm (ts:=argTypes) (ty:=ty) (kv hsl args.toList) h)
   | complex=>exact aT.cC (hb.trans (by rw[hargs];rfl)) M (Bh (ts:=argTypes) (ty:=ty) (kv hsl args.toList) h)
   | real=>exact aT.cC (hb.trans (by rw[hargs];rfl)) M (Aq (ts:=argTypes) (ty:=ty) (kv hsl args.toList) h)
   | imag=>exact aT.cC (hb.trans (by rw[hargs];rfl)) M (Ae (ts:=argTypes) (ty:=ty) (kv hsl args.toList) h)
   | _=>cases h
 | _=>cases h
end
end Go.Proofs.YthdgahpomhnidaaGreat.Mx
namespace Go.Proofs.YthdgahpomhnidaaGreat.Mx
open Go
universe u
variable {P:Program}
theorem CV.force_eq{R:Type u}(c:CV)(K:CV→R):c.force K=K c:=by cases c<;>rfl
theorem qF{R:Type u}:∀(cs:List CV) (K:List CV→R),forceCs cs K=K cs
 | [],K=>rfl
 | c::cs,K=>by rw[forceCs,CV.force_eq,qF cs]
theorem AV.force_eq{R:Type u}(a:AV)(K:AV→R):a.force K=K a:=by
 cases a with
 | c x=>rw[AV.force,CV.force_eq]
 | agg xs=>rw[AV.force,qF]
theorem l5{R:Type u}:∀(cs:List AV) (K:List AV→R),forceAs cs K=K cs
 | [],K=>rfl
 | .c x::cs,K=>by simp only[forceAs,AV.force_eq,l5 cs]
 | .agg x::cs,K=>by simp only[forceAs,AV.force_eq,l5 cs]
theorem SV.force_eq{R:Type u}(a:SV)(K:SV→R):a.force K=K a:=by
 cases a with
 | v x=>rw[SV.force,AV.force_eq]
 | tup xs=>rw[SV.force,l5]
theorem lP{R:Type u}:∀(l:List SV) (n:Nat) (v:SV) (K:List SV→R),setK l n v K=K (l.set n v)
 | [],_,_,_=>rfl
 | _::_,0,_,_=>rfl
 | x::l,n+1,v,K=>by rw[setK,lP l n v];rfl
theorem l7:∀(l:List SV) (n m:Nat) (v:SV),getS (l.set n v) m=if n=m∧n<l.length then v else getS l m
 | [],n,m,v=>by simp[getS]
 | x::l,0,0,v=>by simp[getS]
 | x::l,0,m+1,v=>by simp[getS]
 | x::l,n+1,0,v=>by simp[getS]
 | x::l,n+1,m+1,v=>by
  simp only[List.set_cons_succ,getS,l7 l n m v,List.length_cons]
  congr 1
  simp only[eq_iff_iff];omega
theorem vC:∀(l:List SV) (n:Nat),l.set n (getS l n)=l
 | [],_=>rfl
 | x::l,0=>rfl
 | x::l,n+1=>by simp only[List.set_cons_succ,getS,vC l n]
def putS(l:List SV)(d:Option Nat)(v:SV):List SV :=
 match d with
 | none=>l
 | some n=>l.set n v
theorem nz{R:Type}(l:List SV)(d:Option Nat)(v:SV)(K:List SV→R):putDst l d v K=K (putS l d v):=by
 cases d with
 | none=>rfl
 | some n=>exact lP l n v K
theorem pV(l:List SV)(d:Option Nat)(v:SV):(putS l d v).length=l.length:=by cases d<;>simp[putS]
theorem bP(a:Act)(d:Option Tmp)(V:Value):(a.put d V).tmps.size=a.tmps.size:=by cases d<;>simp[Act.put]
theorem cS(a:Act)(d:Option Tmp)(V:Value):(a.put d V).defers=a.defers:=by cases d<;>simp[Act.put]
theorem uv:∀(l:List SV) (n:Nat),l.length≤n→getS l n=.dead
 | [],_,_=>rfl
 | _::_,0,h=>by simp at h
 | _::l,n+1,h=>uv l n (by simpa using h)
theorem dD.put{g:Gh}{hp:HP}{sl:List SV}{a:Act}{v:SV}{V:Value}(h:dD g hp sl a)(hl:sl.length≤a.tmps.size)(hv:aV g hp v V)(d:Option Tmp):dD g hp (putS sl d v) (a.put d V):=by
 cases d with
 | none=>exact h
 | some n =>
  intro m;simp only[putS,l7,Act.put]
  by_cases e:n=m∧n<sl.length
  ·obtain⟨rfl,e2⟩:=e
   have:n<a.tmps.size:=Nat.lt_of_lt_of_le e2 hl;simp only[e2,and_self,if_true];rw[Array.getD_eq_getD_getElem?,Array.getElem?_setIfInBounds_self_of_lt this];exact hv
  ·rw[if_neg e]
   by_cases e2:n=m
   ·subst e2
    have h3:¬n<sl.length:=fun h=>e ⟨rfl,h⟩
    have:getS sl n=.dead:=uv sl n (Nat.not_lt.1 h3);rw[this];trivial
   ·rw[Array.getD_eq_getD_getElem?,Array.getElem?_setIfInBounds_ne e2,←Array.getD_eq_getD_getElem?]
    exact h m
theorem dD.aL{g g':Gh}{hp hp':HP}{sl:List SV}{a:Act}(h:dD g hp sl a)(s:cA g hp g' hp'):dD g' hp' sl a:=fun t=>aV.aL s _ _ (h t)
def stepE(E:Env)(ops:List Oper)(o:Oper)(base:Nat)(sl:List SV)(H:HF):Option (SV×HF×FP) :=
 match o.guard with
 | none=>(opM E sl o.type o.op).eval base H ⟨[],[]⟩
 | some (j,want)=>match fV ops j with
  | none=>none
  | some t=>match getS sl t with
   | .v (.c (.bool b))=>if b=want then (opM E sl o.type o.op).eval base H ⟨[],[]⟩ else some (.tup [],H,⟨[],[]⟩)
   | .tup []=>some (.tup [],H,⟨[],[]⟩)
   | _=>none
theorem rn{A:Type}{E:Env}{o:Oper}{sl:List SV}{h:aK}{base:Nat}{K:List SV→aK→FP→Option A}{r:A}(hr:qP E o sl h base K=some r) :
  ∃v h' fp,(opM E sl o.type o.op).eval base (hget h) ⟨[],[]⟩=some (v,hget h',fp)∧K (putS sl o.dst v) h' fp=some r:=by
 unfold qP at hr;obtain⟨v,h',fp,h1,h2⟩:=MA.Bg _ _ _ _ _ _ hr;rw[SV.force_eq,nz]at h2;exact⟨v,h',fp,h1,h2⟩
theorem vl{A:Type}{E:Env}{ops:List Oper}{o:Oper}{sl:List SV}{h:aK}{base:Nat}{K:List SV→aK→FP→Option A}{r:A}(hr:stepOp E ops o sl h base K=some r) :
  ∃v h' fp,stepE E ops o base sl (hget h)=some (v,hget h',fp)∧K (putS sl o.dst v) h' fp=some r:=by
 unfold stepOp at hr;unfold stepE;split at hr
 ·rename_i hg
  simp only[hg];exact rn hr
 ·rename_i j want hg
  simp only[hg];split at hr
  ·cases hr
  ·rename_i t ht
   simp only[ht];split at hr
   ·rename_i b hb
    have same:sl.set t (.v (.c (.bool b)))=sl:=by rw[←hb];exact vC sl t
    simp only[hb];have dead:putDst sl o.dst (.tup []) (fun sl2=>K sl2 h ⟨[],[]⟩)=some r→∃v h' fp,some (SV.tup [],hget h,(⟨[],[]⟩:FP))=some (v,hget h',fp)∧K (putS sl o.dst v) h' fp=some r:=fun q=>by
     rw[nz]at q;exact⟨_,h,_,rfl,q⟩
    cases b with
    | false =>
     simp only[lP,same]at hr;cases want with
     | false=>simp only[if_true];exact rn hr
     | true=>simp only[Bool.false_eq_true,if_false];exact dead hr
    | true =>
     simp only[lP,same]at hr;cases want with
     | false=>simp only[Bool.true_eq_false,if_false];exact dead hr
     | true=>simp only[if_true];exact rn hr
   ·rename_i hb
    simp only[hb];rw[nz]at hr;exact⟨_,h,_,rfl,hr⟩
   ·cases hr
inductive dF (E:Env) (ops:List Oper) (next:Nat) (F:Nat→FP):List Nat→List SV→HF→List SV→HF→Prop where
 | nil (sl:List SV) (H:HF):dF E ops next F [] sl H sl H
 | cons {i:Nat} {is:List Nat} {sl sl':List SV} {H H1 H':HF} {o:Oper} {v:SV} (ho:ops[i]?=some o) (hs:stepE E ops o (next+keys*i) sl H=some (v,H1,F i)) (hr:dF E ops next F is (putS sl o.dst v) H1 sl' H') :
  dF E ops next F (i::is) sl H sl' H'
def idx:Nat→Nat→List Nat
 | _,0=>[]
 | i,n+1=>i::idx (i+1) n
theorem dF.congr{E:Env}{ops:List Oper}{next:Nat}{F G:Nat→FP}{is:List Nat}{sl sl':List SV}{H H':HF}(h:dF E ops next F is sl H sl' H'):(∀i,i∈is→G i=F i)→dF E ops next G is sl H sl' H':=by
 induction h with
 | nil sl H=>intro _;exact .nil sl H
 | cons ho hs hr ih=>intro hg;exact .cons ho (by rw[hg _ List.mem_cons_self];exact hs) (ih fun i hi=>hg i (List.mem_cons_of_mem _ hi))
theorem iE:∀(n i j:Nat),j∈idx i n↔i≤j∧j<i+n
 | 0,i,j=>by simp[idx]
 | n+1,i,j=>by simp only[idx,List.mem_cons,iE n (i+1) j];omega
theorem uC{A:Type}{E:Env}{ops:List Oper}{next:Nat}:∀(os:List Oper) (i:Nat) (sl:List SV) (h:aK) (fps:List FP) (K:List SV→aK→List FP→Option A) (r:A),(∀k o,os[k]?=some o→ops[i+k]?=some o) →
  runOps E ops os sl h (next+keys*i) fps K=some r→∃(sl':List SV) (h':aK) (l:List FP),l.length=os.length∧K sl' h' (l.reverse++fps)=some r∧dF E ops next (fun k=>l.getD (k-i) ⟨[],[]⟩) (idx i os.length) sl (hget h) sl' (hget h')
 | [],i,sl,h,fps,K,r,_,hr=>⟨sl,h,[],rfl,hr,.nil _ _⟩
 | o::os,i,sl,h,fps,K,r,ho,hr=>by
  obtain⟨v,h1,fp,h2,h3⟩:=vl (show stepOp E ops o sl h (next+keys*i) (fun sl' h' fp=>runOps E ops os sl' h' (next+keys*i+keys) (fp::fps) K)=some r from hr)
  rw[show next+keys*i+keys=next+keys*(i+1) by rw[Nat.mul_add,Nat.mul_one,Nat.add_assoc]]at h3
  obtain⟨sl',h',l,k1,k2,k3⟩:=uC os (i+1) _ h1 (fp::fps) K r (fun k o' hk=>by rw[show i+1+k=i+(k+1) by omega];exact ho (k+1) o' (by simpa using hk)) h3
  refine⟨sl',h',fp::l,by simp[k1],by simpa using k2,?_⟩
  refine .cons (ho 0 o rfl) (v:=v) (H1:=hget h1) (by rw[h2,Nat.sub_self];rfl) (k3.congr fun j hj=>?_)
  have:=(iE _ _ _).1 hj;rw[show j-i=(j-(i+1))+1 by omega]
  rfl
theorem zz{E:Env}{sl sl':List SV}{ty:Nat}(op:Op)(h:∀x,x∈op.operands.toList→rd sl x=rd sl' x):opM E sl ty op=opM E sl' ty op:=by
 have two:∀(ps:List (Nat×Operand)),(∀p,p∈ps→rd sl p.2=rd sl' p.2)→lI sl ps=lI sl' ps:=fun ps hp=>List.map_congr_left fun p hp'=>by rw[hp p hp']
 have all:∀(ps:List Operand),(∀p,p∈ps→rd sl p=rd sl' p)→ps.map (rd sl)=ps.map (rd sl'):=fun ps hp=>List.map_congr_left hp
 cases op with
 | move x=>simp only[opM,h x (by simp[Op.operands])]
 | assign x=>simp only[opM,h x (by simp[Op.operands])]
 | pick c x y=>simp only[opM,h c (by simp[Op.operands]),h x (by simp[Op.operands]),h y (by simp[Op.operands])]
 | alloc e=>rfl
 | box e x=>simp only[opM,h x (by simp[Op.operands])]
 | build t ps=>simp only[opM,two ps.toList (fun p hp=>h p.2 (by simp only[Op.operands];exact List.mem_map_of_mem hp))]
 | buildSlice t n ps=>simp only[opM,two ps.toList (fun p hp=>h p.2 (by simp only[Op.operands];exact List.mem_map_of_mem hp))]
 | load t x=>simp only[opM,h x (by simp[Op.operands])]
 | store t x y=>simp only[opM,h x (by simp[Op.operands]),h y (by simp[Op.operands])]
 | nilCheck x=>simp only[opM,h x (by simp[Op.operands])]
 | binOp op t x y z=>simp only[opM,h x (by simp[Op.operands]),h y (by simp[Op.operands])]
 | unOp op t x=>simp only[opM,h x (by simp[Op.operands])]
 | convert s d x=>simp only[opM,h x (by simp[Op.operands])]
 | makeFunc fn first captured =>
  cases fn with
  | func f=>simp only[opM,all captured.toList (fun p hp=>h p (by simp only[Op.operands,Array.toList_append,List.mem_append];exact .inr hp))]
  | _=>rfl
 | makeSlice t l c=>simp only[opM,h l (by simp[Op.operands]),h c (by simp[Op.operands])]
 | slice t x lo hi mx =>
  cases mx with
  | some _=>rfl
  | none =>
   have e1:lo.map (rd sl)=lo.map (rd sl'):=by
    cases lo with
    | none=>rfl
    | some y=>simp only[Option.map_some,h y (by simp[Op.operands])]
   have e2:hi.map (rd sl)=hi.map (rd sl'):=by
    cases hi with
    | none=>rfl
    | some y=>simp only[Option.map_some,h y (by simp[Op.operands])]
   simp only[opM,h x (by simp[Op.operands]),e1,e2]
 | fieldAddr s x f=>simp only[opM,h x (by simp[Op.operands])]
 | field s x f=>simp only[opM,h x (by simp[Op.operands])]
 | indexAddr t x i=>simp only[opM,h x (by simp[Op.operands]),h i (by simp[Op.operands])]
 | index t x i=>simp only[opM,h x (by simp[Op.operands]),h i (by simp[Op.operands])]
 | extract t i=>simp only[opM,h t (by simp[Op.operands])]
 | makeInterface t x=>simp only[opM,h x (by simp[Op.operands])]
 | typeAssert x _ t ok=>simp only[opM,h x (by simp[Op.operands])]
 | call c =>
  obtain⟨callee,args,ts⟩:=c;have e1:args.toList.map (rd sl)=args.toList.map (rd sl'):=all args.toList fun p hp=>h p (by cases callee<;>simp[Op.operands,Call.operands]<;>simp_all)
  cases callee with
  | value f=>simp only[opM,e1,h f (by simp[Op.operands,Call.operands])]
  | invoke r n=>rfl
  | builtin b =>
   have e2:∀x,x∈args.toList→rd sl x=rd sl' x:=fun x hx=>h x (by simp[Op.operands,Call.operands];simpa using hx)
   cases b with
   | len =>
    simp only[opM];split
    ·rename_i t x ht hx;rw[e2 x (by rw[hx];simp)]
    ·rfl
   | cap =>
    simp only[opM];split
    ·rename_i t x ht hx;rw[e2 x (by rw[hx];simp)]
    ·rfl
   | append =>
    simp only[opM];split
    ·rename_i t t' x y ht hx;rw[e2 x (by rw[hx];simp),e2 y (by rw[hx];simp)]
    ·rfl
   | min=>simp only[opM,e1]
   | max=>simp only[opM,e1]
   | complex=>simp only[opM,e1]
   | real=>simp only[opM,e1]
   | imag=>simp only[opM,e1]
   | _=>rfl
 | _=>rfl
theorem oz{E:Env}{ops:List Oper}{o:Oper}{base:Nat}{sl sl':List SV}{H:HF}(h:∀t,t∈looks ops o→getS sl t=getS sl' t):stepE E ops o base sl H=stepE E ops o base sl' H:=by
 have e:opM E sl o.type o.op=opM E sl' o.type o.op:=zz o.op fun x hx=>by
  cases x with
  | tmp t =>
   refine h t ?_;unfold looks;refine List.mem_append_left _ ?_;exact List.mem_filterMap.2 ⟨.tmp t,hx,rfl⟩
  | _=>rfl
 unfold stepE;split
 ·rw[e]
 ·rename_i j want hg
  split
  ·rfl
  ·rename_i t ht
   rw[h t (by unfold looks;rw[hg];refine List.mem_append_right _ ?_;simp only[ht];simp),e]
theorem k8{E:Env}{ops:List Oper}{o:Oper}{base:Nat}{sl:List SV}{H H':HF}{v:SV}{fp:FP}(h:stepE E ops o base sl H=some (v,H',fp)) :
  (∀n,n∉fp.writes→H' n=H n)∧∀H2:HF,(∀n,n∈fp.reads∨n∈fp.writes→H2 n=H n)→stepE E ops o base sl H2=some (v,fun n=>if n∈fp.writes then H' n else H2 n,fp):=by
 have loc:(opM E sl o.type o.op).eval base H ⟨[],[]⟩=some (v,H',fp)→(∀n,n∉fp.writes→H' n=H n)∧∀H2:HF,(∀n,n∈fp.reads∨n∈fp.writes→H2 n=H n)→(opM E sl o.type o.op).eval base H2 ⟨[],[]⟩=some (v,fun n=>if n∈fp.writes then H' n else H2 n,fp):=fun h=>by
  obtain⟨R,W,e,h1,h2⟩:=MA.yB _ _ _ _ _ _ _ h;simp only[List.append_nil]at e;subst e;refine⟨h1,fun H2 hH=>?_⟩
  have:=h2 H2 ⟨[],[]⟩ hH;simpa using this
 unfold stepE at h ⊢;split at h
 ·exact loc h
 ·split at h
  ·cases h
  ·split at h
   ·split at h
    ·rename_i hw
     simp only[hw,if_true];exact loc h
    ·rename_i hw
     simp only[Option.some.injEq,Prod.mk.injEq]at h;obtain⟨rfl,rfl,rfl⟩:=h;refine⟨fun _ _=>rfl,fun H2 _=>?_⟩
     simp only[hw,if_false,List.not_mem_nil]
   ·simp only[Option.some.injEq,Prod.mk.injEq]at h
    obtain⟨rfl,rfl,rfl⟩:=h;refine⟨fun _ _=>rfl,fun H2 _=>?_⟩
    simp only[if_false,List.not_mem_nil]
   ·cases h
structure jJ (ops:List Oper) (a b:Oper) (p q:FP):Prop where
 ab:∀d,a.dst=some d→d∉looks ops b
 ba:∀d,b.dst=some d→d∉looks ops a
 dd:∀d,a.dst=some d→b.dst≠some d
 wr:∀n,n∈p.writes→n∉q.reads∧n∉q.writes
 rw:∀n,n∈p.reads→n∉q.writes
theorem any_beq{l:List Nat}{x:Nat}:(l.any (Nat.beq x))=true↔x∈l:=by
 rw[List.any_eq_true];constructor
 ·rintro ⟨y,h1,h2⟩;rw[beq_eq h2];exact h1
 ·exact fun h=>⟨x,h,bT x⟩
theorem oZ{a b:List Nat}(h:meets a b=false):∀x,x∈a→x∉b:=fun x hx hb=>by
 unfold meets at h;have:(a.any fun x=>b.any (Nat.beq x))=true:=List.any_eq_true.2 ⟨x,hx,any_beq.2 hb⟩
 rw[this]at h;cases h
theorem apart_spec{ops:List Oper}{a b:Oper}{p q:FP}(h:apart ops a b p q=true):jJ ops a b p q:=by
 simp only[apart,Bool.and_eq_true,Bool.not_eq_true']at h;obtain⟨⟨⟨⟨h1,h2⟩,h3⟩,h4⟩,h5⟩:=h;have di:∀(x:Option Nat) (l:List Nat),dstIn x l=false→∀d,x=some d→d∉l:=fun x l hx d hd hm=>by
  subst hd;unfold dstIn at hx
  simp only at hx
  rw[any_beq.2 hm]at hx;cases hx
 refine⟨di _ _ h1,di _ _ h2,fun d hd hb=>di _ _ h3 d hd (by rw[hb];simp),fun n hn=>?_,oZ h5⟩
 have:=oZ h4 n hn;simp only[List.mem_append,not_or]at this;exact this
theorem sB{sl:List SV}{d:Option Nat}{v:SV}{t:Nat}(h:d≠some t):getS (putS sl d v) t=getS sl t:=by
 cases d with
 | none=>rfl
 | some n =>
  simp only[putS,l7];rw[if_neg]
  rintro ⟨rfl,_⟩
  exact h rfl
theorem yU{sl:List SV}{d e:Option Nat}{v u:SV}(h:∀k,d=some k→e≠some k):putS (putS sl d v) e u=putS (putS sl e u) d v:=by
 cases d with
 | none=>rfl
 | some k =>
  cases e with
  | none=>rfl
  | some j =>
   have:k≠j:=fun q=>h k rfl (by rw[q])
   simp only[putS];exact List.set_comm _ _ this
section
variable {E:Env} {ops:List Oper} {next:Nat} {F:Nat→FP}
theorem dF.swap{i j:Nat}{oi oj:Oper}{is:List Nat}{sl sl':List SV}{H H':HF}(hi:ops[i]?=some oi)(hj:ops[j]?=some oj)(ap:jJ ops oj oi (F j) (F i))(h:dF E ops next F (j::i::is) sl H sl' H'):dF E ops next F (i::j::is) sl H sl' H':=by
 cases h with
 | cons ho hs hr =>
  rw[hj]at ho;cases ho;cases hr with
  | cons ho2 hs2 hr2 =>
   rw[hi]at ho2;cases ho2;rename_i Hj vj Hi vi;obtain⟨a1,a2⟩:=k8 hs;obtain⟨b1,b2⟩:=k8 hs2;have s2:stepE E ops oi (next+keys*i) sl Hj=some (vi,Hi,F i):=by
    rw[←hs2];exact oz fun t ht=>(sB fun e=>ap.ab t e ht).symm
   have s3:=(k8 s2).2 H fun n hn=>(a1 n fun hw=>hn.elim (ap.wr n hw).1 (ap.wr n hw).2).symm
   have s4:=a2 (fun n=>if n∈(F i).writes then Hi n else H n) fun n hn=>by
    have:n∉(F i).writes:=hn.elim (ap.rw n) fun hw=>(ap.wr n hw).2
    simp only[this,if_false]
   have s5:stepE E ops oj (next+keys*j) (putS sl oi.dst vi) (fun n=>if n∈(F i).writes then Hi n else H n)=some (vj,Hi,F j):=by
    rw[oz (sl':=sl) fun t ht=>sB fun e=>ap.ba t e ht]
    rw[s4]
    congr 2
    congr 1
    funext n
    by_cases w1:n∈(F j).writes
    ·simp only[w1,if_true]
     exact(b1 n (ap.wr n w1).2).symm
    ·simp only[w1,if_false]
     by_cases w2:n∈(F i).writes
     ·simp only[w2,if_true]
     ·simp only[w2,if_false]
      rw[b1 n w2,a1 n w1]
   refine .cons hi s3 (.cons hj s5 ?_);rw[yU fun k h1 h2=>ap.dd k h2 h1]
   exact hr2
theorem dF.move{i:Nat}{oi:Oper}{q:List Nat}(hi:ops[i]?=some oi):∀(p:List Nat) (sl sl':List SV) (H H':HF),(∀j,j∈p→∃oj,ops[j]?=some oj∧jJ ops oj oi (F j) (F i)) →
  dF E ops next F (p++i::q) sl H sl' H'→dF E ops next F (i::(p++q)) sl H sl' H'
 | [],sl,sl',H,H',_,h=>h
 | j::p,sl,sl',H,H',hp,h=>by
  obtain⟨oj,h1,h2⟩:=hp j List.mem_cons_self;cases h with
  | cons ho hs hr=>exact(dF.swap hi h1 h2 (.cons ho hs (dF.move hi p _ _ _ _ (fun k hk=>hp k (List.mem_cons_of_mem _ hk)) hr)))
end
end Go.Proofs.YthdgahpomhnidaaGreat.Mx
namespace Go.Proofs.YthdgahpomhnidaaGreat.Mx
open Go
universe u
variable {P:Program}
theorem yN{ops:Array Oper}{g:Gh}{hp:HP}{sl:List SV}{a:Act}{j t:Nat}{b:Bool}(hsl:dD g hp sl a)(ht:fV ops.toList j=some t)(hb:getS sl t=.v (.c (.bool b))):yielded ops a.tmps j=some b:=by
 have h1:=hsl t;rw[hb]at h1;have h1:a.tmps.getD t undef=.bool b:=h1;have h2:a.tmps[t]?=some (.bool b):=by
  rw[Array.getD_eq_getD_getElem?]at h1;cases hq:a.tmps[t]? with
  | none=>rw[hq]at h1;simp[undef]at h1
  | some x=>rw[hq]at h1;simp only[Option.getD_some]at h1;rw[h1]
 unfold fV at ht;unfold yielded;cases ho:ops[j]? with
 | none=>simp[ho]at ht
 | some o =>
  simp only[Array.getElem?_toList,ho]at ht;simp only[Option.bind_some,ht,h2]
theorem vQ{ops:Array Oper}{g:Gh}{hp:HP}{sl:List SV}{a:Act}{j t:Nat}(hsl:dD g hp sl a)(ht:fV ops.toList j=some t)(hb:getS sl t=.tup []):yielded ops a.tmps j=none:=by
 have h1:=hsl t;rw[hb]at h1;obtain⟨vs,h1,h0⟩:=h1;have h2:a.tmps[t]?=none∨a.tmps[t]?=some (.tuple vs.toArray):=by
  rw[Array.getD_eq_getD_getElem?]at h1;cases hq:a.tmps[t]? with
  | none=>exact .inl rfl
  | some x=>rw[hq]at h1;simp only[Option.getD_some]at h1;exact .inr (by rw[h1])
 unfold fV at ht;unfold yielded;cases ho:ops[j]? with
 | none=>rfl
 | some o =>
  simp only[Array.getElem?_toList,ho]at ht;rcases h2 with h2 | h2<;>simp only[Option.bind_some,ht,h2]
section
variable {mt:Nat→Prop} {g:Gh} {H H':HF} {w:World} {base:Nat} {fp:FP} {v:SV} {o:Oper} {a:Act} {E:Env} {sl:List SV} {ops:Array Oper} {i:Nat} {K:Act→World→Prop} {Q:Exit→Act→World→Prop}
theorem jN(ok:dk P E)(M:Mem mt g H w.heap)(hm:∀b,w.heap.size≤b→mt b)(hsl:dD g w.heap sl a)(hlen:sl.length≤a.tmps.size)(hf:∀n,base≤n→n<base+keys→g.φ n=none)(ho:ops[i]?=some o)
  (hs:stepE E ops.toList o base sl H=some (v,H',fp))
  (hK:∀V w' g',Ext mt g w g' w'→(∀n,¬(base≤n∧n<base+keys)→g'.φ n=g.φ n)→Mem mt g' H' w'.heap→dD g' w'.heap (putS sl o.dst v) (a.put o.dst V)→K (a.put o.dst V) w'):wpOp P ops Q i K a w:=by
 have run:(opM E sl o.type o.op).eval base H ⟨[],[]⟩=some (v,H',fp)→o.wp P a w K Q:=fun h =>
  op_does ok M hm hf hsl h K Q fun V w' ⟨g',e,hφ,M',hv⟩=>hK V w' g' e hφ M' (dD.put (hsl.aL (e.aL M.ro)) hlen hv o.dst)
 unfold wpOp;rw[ho]
 simp only
 unfold stepE at hs;split at hs
 ·rename_i hg
  rw[if_pos (by simp[Region.wanted,hg])]
  exact .inl (run hs)
 ·rename_i j want hg
  split at hs
  ·cases hs
  ·rename_i t ht
   split at hs
   ·rename_i b hb
    have hy:=yN hsl ht hb;split at hs
    ·rename_i hw
     rw[if_pos (by simp[Region.wanted,hg,hy,hw])]
     exact .inl (run hs)
    ·rename_i hw
     simp only[Option.some.injEq,Prod.mk.injEq]at hs;obtain⟨rfl,rfl,rfl⟩:=hs;rw[if_neg (by simp[Region.wanted,hg,hy,hw])]
     exact hK undef w g (Ext.refl _ _ _) (fun _ _=>rfl) M (dD.put (v:=.tup []) (V:=undef) hsl hlen ⟨[],rfl,trivial⟩ o.dst)
   ·rename_i hb
    simp only[Option.some.injEq,Prod.mk.injEq]at hs;obtain⟨rfl,rfl,rfl⟩:=hs;rw[if_neg (by simp[Region.wanted,hg,vQ hsl ht hb])]
    exact hK undef w g (Ext.refl _ _ _) (fun _ _=>rfl) M (dD.put (v:=.tup []) (V:=undef) hsl hlen ⟨[],rfl,trivial⟩ o.dst)
   ·cases hs
end
structure bV (mt:Nat→Prop) (g0:Gh) (w0:World) (H:HF) (sl:List SV) (nx:Nat) (ds:List Deferred) (N:Nat) (a:Act) (w:World) (g:Gh):Prop where
 ext:Ext mt g0 w0 g w
 mem:Mem mt g H w.heap
 fA:dD g w.heap sl a
 len:sl.length≤a.tmps.size
 nx:∀n,nx≤n→g.φ n=none
 gz:(a.defers=ds∧a.tmps.size=N)
section
variable {mt:Nat→Prop} {g0:Gh} {w0:World} {E:Env} {ops:Array Oper} {next:Nat} {F:Nat→FP} {Q:Exit→Act→World→Prop} {ds:List Deferred} {N:Nat}
theorem grown{g:Gh}{w:World}(hm0:∀b,w0.heap.size≤b→mt b)(e:Ext mt g0 w0 g w):∀b,w.heap.size≤b→mt b:=fun b hb=>hm0 b (Nat.le_trans e.size hb)
theorem yG{i j n:Nat}(h1:next+keys*i≤n)(h2:n<next+keys*i+keys)(hne:i≠j):¬(next+keys*j≤n∧n<next+keys*j+keys):=by
 simp only[keys]at *
 omega
theorem vI(ok:dk P E)(hm0:∀b,w0.heap.size≤b→mt b){i:Nat}{is:List Nat}{sl sl':List SV}{H H':HF}{a:Act}{w:World}{g:Gh}{K:Act→World→Prop}
  (hr:dF E ops.toList next F (i::is) sl H sl' H') (ext:Ext mt g0 w0 g w) (M:Mem mt g H w.heap) (hsl:dD g w.heap sl a) (hlen:sl.length≤a.tmps.size) (hd:(a.defers=ds∧a.tmps.size=N))
  (hf:∀k,k∈i::is→∀n,next+keys*k≤n→n<next+keys*k+keys→g.φ n=none) (hn:∀n,next+keys*ops.size≤n→g.φ n=none) (hi:i<ops.size) (hni:i∉is)
  (hK:∀a w g sl H,dF E ops.toList next F is sl H sl' H'→Ext mt g0 w0 g w→Mem mt g H w.heap→dD g w.heap sl a→sl.length≤a.tmps.size→(a.defers=ds∧a.tmps.size=N) →
   (∀k,k∈is→∀n,next+keys*k≤n→n<next+keys*k+keys→g.φ n=none)→(∀n,next+keys*ops.size≤n→g.φ n=none)→K a w):wpOp P ops Q i K a w:=by
 cases hr with
 | cons ho hs hr =>
  rw[Array.getElem?_toList]at ho;refine jN ok M (grown hm0 ext) hsl hlen (hf i List.mem_cons_self) ho hs fun V w' g' e hφ M' hsl'=>?_
  refine hK _ w' g' _ _ hr (ext.trans e) M' hsl' (by rw[pV,bP];exact hlen) (by rw[cS,bP];exact hd) (fun k hk n h1 h2=>?_) (fun n h1=>?_)
  ·rw[hφ n (yG h1 h2 fun e'=>hni (e'▸hk))]
   exact hf k (List.mem_cons_of_mem _ hk) n h1 h2
  ·rw[hφ n]
   ·exact hn n h1
   ·simp only[keys]at *
    omega
theorem qS(ok:dk P E)(hm0:∀b,w0.heap.size≤b→mt b){sl':List SV}{H':HF}(hQ:∀a w g,bV mt g0 w0 H' sl' (next+keys*ops.size) ds N a w g→Q .normal a w):∀(is:List Nat) (a:Act) (w:World) (g:Gh) (sl:List SV) (H:HF),is.Nodup→(∀i,i∈is→i<ops.size) →
  dF E ops.toList next F is sl H sl' H'→Ext mt g0 w0 g w→Mem mt g H w.heap→dD g w.heap sl a→sl.length≤a.tmps.size→(a.defers=ds∧a.tmps.size=N)→(∀k,k∈is→∀n,next+keys*k≤n→n<next+keys*k+keys→g.φ n=none)→(∀n,next+keys*ops.size≤n→g.φ n=none) →
  wpOps P ops Q is a w
 | [],a,w,g,sl,H,_,_,hr,ext,M,hsl,hlen,hd,hf,hn=>by
  cases hr;exact hQ a w g ⟨ext,M,hsl,hlen,hn,hd⟩
 | i::is,a,w,g,sl,H,hnd,hlt,hr,ext,M,hsl,hlen,hd,hf,hn=>by
  rw[wpOps_cons];rw[List.nodup_cons]at hnd;exact vI ok hm0 hr ext M hsl hlen hd hf hn (hlt i List.mem_cons_self) hnd.1 fun a w g sl H hr ext M hsl hlen hd hf hn =>
   qS ok hm0 hQ is a w g sl H hnd.2 (fun k hk=>hlt k (List.mem_cons_of_mem _ hk)) hr ext M hsl hlen hd hf hn
theorem gf(p:Nat→Bool):∀(n a i:Nat),i∈(idx a n).filter p→∃pre post,(idx a n).filter p=pre++i::post∧(∀k,k∈pre→k<i∧a≤k∧k<a+n∧p k=true)∧(∀k,k∈post→i<k)∧(idx a n).filter (fun k=>p k&&!(decide (k=i)))=pre++post
 | 0,a,i,h=>by simp[idx]at h
 | n+1,a,i,h=>by
  have big:∀(q:Nat→Bool) k,k∈(idx (a+1) n).filter q→a<k:=fun q k hk=>by
   have:=(iE _ _ _).1 (List.mem_filter.1 hk).1;omega
  by_cases hp:p a=true
  ·by_cases e:i=a
   ·subst e
    refine⟨[],(idx (i+1) n).filter p,by simp[idx,hp],fun k hk=>(by cases hk),fun k hk=>big _ k hk,?_⟩
    simp only[idx,List.filter_cons,decide_true,Bool.not_true,Bool.and_false,Bool.false_eq_true,if_false,List.nil_append];refine List.filter_congr fun k hk=>?_
    have:=(iE _ _ _).1 hk;have hki:k≠i:=by omega
    simp[hki]
   ·have h2:i∈(idx (a+1) n).filter p:=by
     simp only[idx,List.filter_cons,hp,if_true,List.mem_cons]at h;exact h.resolve_left e
    obtain⟨pre,post,h3,h4,h5,h6⟩:=gf p n (a+1) i h2;refine⟨a::pre,post,by simp[idx,hp,h3],fun k hk=>?_,h5,?_⟩
    ·rcases List.mem_cons.1 hk with rfl | hk
     ·exact⟨by have:=big _ i h2;omega,Nat.le_refl _,by omega,hp⟩
     ·have:=h4 k hk;exact⟨this.1,by omega,by omega,this.2.2.2⟩
    ·have hae:a≠i:=Ne.symm e
     simp[idx,hp,hae,h6]
  ·have h2:i∈(idx (a+1) n).filter p:=by
    simp only[idx,List.filter_cons,hp,if_false,Bool.false_eq_true]at h;exact h
   obtain⟨pre,post,h3,h4,h5,h6⟩:=gf p n (a+1) i h2;refine⟨pre,post,by simp[idx,hp,h3],fun k hk=>?_,h5,by simp[idx,hp,h6]⟩
   have:=h4 k hk;exact⟨this.1,by omega,by omega,this.2.2.2⟩
def jj(ops:Array Oper)(listed:Array Bool):List Nat:=(idx 0 ops.size).filter fun k=>!listed.getD k true
theorem n3{listed:Array Bool}{k:Nat}:k∈jj ops listed↔k<ops.size∧listed.getD k true=false:=by
 unfold jj;rw[List.mem_filter,iE];simp
theorem rQ{listed:Array Bool}{k:Nat}(h:k<listed.size):listed.getD k false=listed.getD k true:=by
 simp[Array.getD,h]
theorem x8(ok:dk P E)(hm0:∀b,w0.heap.size≤b→mt b){sl':List SV}{H':HF}{pre:Nat→Nat→Prop}(hQ:∀a w g,bV mt g0 w0 H' sl' (next+keys*ops.size) ds N a w g→Q .normal a w)
  (hedge:∀i o,ops[i]?=some o→∀e,e∈o.after→Region.binds .any e=true→e.on<i)
  (hpre:∀i o,ops[i]?=some o→∀j,pre i j→∃e,e∈o.after∧Region.binds .any e=true∧(j=e.on∨pre e.on j))
  (hap:∀i j oi oj,ops[i]?=some oi→ops[j]?=some oj→j<i→pre i j∨jJ ops.toList oj oi (F j) (F i)) :
  ∀(fuel:Nat) (listed:Array Bool) (a:Act) (w:World) (g:Gh) (sl:List SV) (H:HF),listed.size=ops.size→(jj ops listed).length≤fuel→(∀k,k<ops.size→listed.getD k true=true→∀j,pre k j→listed.getD j false=true) →
  dF E ops.toList next F (jj ops listed) sl H sl' H'→Ext mt g0 w0 g w→Mem mt g H w.heap→dD g w.heap sl a→sl.length≤a.tmps.size→(a.defers=ds∧a.tmps.size=N)→(∀k,k∈jj ops listed→∀n,next+keys*k≤n→n<next+keys*k+keys→g.φ n=none)→(∀n,next+keys*ops.size≤n→g.φ n=none) →
  wpAny P .any ops Q fuel listed a w:=by
 intro fuel;have ready_unl:∀(listed:Array Bool) i,listed.size=ops.size→i∈Region.ready .any ops listed→i∈jj ops listed:=fun listed i hsz hi=>by
  obtain⟨h1,o,h2,_⟩:=mem_ready.1 hi;exact n3.2 ⟨(Array.getElem?_eq_some_iff.1 h2).1,h1⟩
 have done:∀(listed:Array Bool) a w g sl H,listed.size=ops.size→jj ops listed=[]→dF E ops.toList next F (jj ops listed) sl H sl' H'→Ext mt g0 w0 g w→Mem mt g H w.heap→dD g w.heap sl a→sl.length≤a.tmps.size→(a.defers=ds∧a.tmps.size=N)→(∀n,next+keys*ops.size≤n→g.φ n=none) →
   Region.ready .any ops listed=[]∧Q .normal a w:=fun listed a w g sl H hsz hu hr ext M hsl hlen hd hn=>by
  rw[hu]at hr;cases hr;refine⟨?_,hQ a w g ⟨ext,M,hsl,hlen,hn,hd⟩⟩;cases hrd:Region.ready .any ops listed with
  | nil=>rfl
  | cons x xs =>
   have:=ready_unl listed x hsz (by rw[hrd];exact List.mem_cons_self)
   rw[hu]at this;cases this
 induction fuel with
 | zero =>
  intro listed a w g sl H hsz hfu hcl hr ext M hsl hlen hd hf hn;exact done listed a w g sl H hsz (List.length_eq_zero_iff.1 (Nat.le_zero.1 hfu)) hr ext M hsl hlen hd hn
 | succ fuel ih =>
  intro listed a w g sl H hsz hfu hcl hr ext M hsl hlen hd hf hn;refine⟨fun hrd=>?_,fun i hi=>?_⟩
  ·cases hu:jj ops listed with
   | nil=>exact(done listed a w g sl H hsz hu hr ext M hsl hlen hd hn).2
   | cons i rest =>
    exfalso
    have himem:i∈jj ops listed:=by rw[hu];exact List.mem_cons_self
    obtain⟨hlt,hli⟩:=n3.1 himem;obtain⟨p,q,h1,h2,h3,h4⟩:=gf _ _ _ _ himem;have hmin:∀k,k<i→listed.getD k true=true:=fun k hk=>by
     cases hb:listed.getD k true with
     | true=>rfl
     | false =>
      have hkm:k∈jj ops listed:=n3.2 ⟨by omega,hb⟩
      obtain⟨p',q',h1',h2',h3',h4'⟩:=gf _ _ _ _ hkm;have e:jj ops listed=p'++k::q':=h1';rw[hu]at e;cases p' with
      | nil=>simp only[List.nil_append,List.cons.injEq]at e;omega
      | cons x xs =>
       simp only[List.cons_append,List.cons.injEq]at e;have:=(h2' x List.mem_cons_self).1;omega
    have:i∈Region.ready .any ops listed:=by
     refine mem_ready.2 ⟨hli,ops[i],Array.getElem?_eq_getElem hlt,fun e he hb=>?_⟩
     have hlt2:=hedge i _ (Array.getElem?_eq_getElem hlt) e he hb;rw[rQ (by rw[hsz];omega)]
     exact hmin _ hlt2
    rw[hrd]at this;cases this
  ·have himem:=ready_unl listed i hsz hi
   obtain⟨hlt,hli⟩:=n3.1 himem;obtain⟨_,oi,hoi,hall⟩:=mem_ready.1 hi;obtain⟨p,q,h1,h2,h3,h4⟩:=gf _ _ _ _ himem;have hsz':(listed.setIfInBounds i true).size=ops.size:=by simp[hsz]
   have hset:∀k,(listed.setIfInBounds i true).getD k true=if k=i then true else listed.getD k true:=fun k=>by
    by_cases e:k=i
    ·subst e
     rw[if_pos rfl];have:k<(listed.setIfInBounds k true).size:=by rw[hsz'];exact hlt
     simp[Array.getD,hsz,hlt]
    ·rw[if_neg e,getD_set_ne true (Ne.symm e)]
   have hu:jj ops listed=p++i::q:=h1;have hu':jj ops (listed.setIfInBounds i true)=p++q:=by
    rw[←h4];unfold jj;refine List.filter_congr fun k hk=>?_
    rw[hset k]
    by_cases e:k=i<;>simp[e]
   have closed_i:∀j,pre i j→listed.getD j false=true:=fun j hj=>by
    obtain⟨e,he,hb,h⟩:=hpre i oi hoi j hj;have h5:=hall e he hb;rcases h with rfl | h
    ·exact h5
    ·have h6:=hedge i oi hoi e he hb
     exact hcl e.on (by omega) (by rw[←rQ (by rw[hsz];omega)];exact h5) j h
   have hr2:dF E ops.toList next F (i::(p++q)) sl H sl' H':=by
    rw[hu]at hr;refine dF.move (by rw[Array.getElem?_toList];exact hoi) p sl sl' H H' (fun j hj=>?_) hr
    obtain⟨k1,k2,k3,k4⟩:=h2 j hj;have hjlt:j<ops.size:=by omega
    refine⟨ops[j],by rw[Array.getElem?_toList];exact Array.getElem?_eq_getElem hjlt,(hap i j oi ops[j] hoi (Array.getElem?_eq_getElem hjlt) k1).resolve_left fun hp=>?_⟩
    have:=closed_i j hp;rw[rQ (by rw[hsz];omega)]at this
    simp[this]at k4
   have hni:i∉p++q:=fun h=>by
    rcases List.mem_append.1 h with h | h
    ·have:=(h2 i h).1;omega
    ·have:=h3 i h;omega
   refine vI ok hm0 hr2 ext M hsl hlen hd (fun k hk n a1 a2=>hf k ?_ n a1 a2) hn hlt hni fun a w g sl H hr ext M hsl hlen hd hf hn=>?_
   ·rw[hu]
    rcases List.mem_cons.1 hk with rfl | hk
    ·simp
    ·rcases List.mem_append.1 hk with hk | hk<;>simp[hk]
   ·refine ih _ a w g sl H hsz' ?_ (fun k hk hl j hj=>?_) (by rw[hu'];exact hr) ext M hsl hlen hd (by rw[hu'];exact hf) hn
    ·rw[hu'];rw[hu]at hfu;simp only[List.length_append,List.length_cons]at hfu ⊢;omega
    ·rw[hset k]at hl
     by_cases e:k=i
     ·subst e;exact getD_set_true (closed_i j hj)
     ·rw[if_neg e]at hl;exact getD_set_true (hcl k hk hl j hj)
end
theorem mI{ops:List Oper}{pre:List Nat}{i:Nat}{o:Oper}{fp:FP}:∀(bs:List Oper) (qs:List FP) (j:Nat),apartAll ops pre i o fp j bs qs=true→∀k b q,bs[k]?=some b→qs[k]?=some q→Nat.testBit (pre.getD i 0) (j+k)=true∨jJ ops b o q fp
 | [],qs,j,h,k,b,q,hb,hq=>by simp at hb
 | b::bs,[],j,h,k,b',q,hb,hq=>by cases h
 | b::bs,q::qs,j,h,0,b',q',hb,hq=>by
  simp only[apartAll,Bool.and_eq_true,Bool.or_eq_true]at h;simp only[List.getElem?_cons_zero,Option.some.injEq]at hb hq;subst hb hq;exact h.1.imp id apart_spec
 | b::bs,q::qs,j,h,k+1,b',q',hb,hq=>by
  simp only[apartAll,Bool.and_eq_true,Bool.or_eq_true]at h;have:=mI bs qs (j+1) h.2 k b' q' (by simpa using hb) (by simpa using hq)
  rw[show j+(k+1)=j+1+k by omega]
  exact this
theorem mH{ops:List Oper}{pre:List Nat}{fps:List FP}:∀(os:List Oper) (ps:List FP) (i:Nat),gP ops pre fps i os ps=true→∀k o p,os[k]?=some o→ps[k]?=some p →
  (∀e,e∈o.after→Region.binds .any e=true→e.on<i+k)∧∀j b q,j<i+k→ops[j]?=some b→fps[j]?=some q→Nat.testBit (pre.getD (i+k) 0) j=true∨jJ ops b o q p
 | [],ps,i,h,k,o,p,ho,hp=>by simp at ho
 | o::os,[],i,h,k,o',p,ho,hp=>by cases h
 | o::os,p::ps,i,h,0,o',p',ho,hp=>by
  simp only[gP,Bool.and_eq_true]at h;simp only[List.getElem?_cons_zero,Option.some.injEq]at ho hp;subst ho hp;refine⟨fun e he hb=>?_,fun j b q hj hb hq=>?_⟩
  ·have:=List.all_eq_true.1 h.1 e (by simpa using he)
   rw[hb]at this;exact mO this
  ·have:=mI _ _ 0 h.2.1 j b q (by rw[List.getElem?_take];simp only[Nat.add_zero]at hj;rw[if_pos hj];exact hb) hq
   simpa using this
 | o::os,p::ps,i,h,k+1,o',p',ho,hp=>by
  simp only[gP,Bool.and_eq_true]at h;have:=mH os ps (i+1) h.2.2 k o' p' (by simpa using ho) (by simpa using hp)
  rw[show i+(k+1)=i+1+k by omega]
  exact this
theorem kZ{pre:List Nat}{j:Nat}:∀(es:List Edge),Nat.testBit (maskOf pre es) j=true→∃e,e∈es∧Region.binds .any e=true∧(j=e.on∨Nat.testBit (pre.getD e.on 0) j=true)
 | [],h=>by simp[maskOf]at h
 | e::es,h=>by
  unfold maskOf at h;cases hb:Region.binds .any e with
  | false =>
   rw[hb]at h;obtain⟨e',h1,h2⟩:=kZ es h;exact⟨e',List.mem_cons_of_mem _ h1,h2⟩
  | true =>
   rw[hb]at h;have h:Nat.testBit ((1 <<< e.on ||| pre.getD e.on 0) ||| maskOf pre es) j=true:=h
   rw[Nat.testBit_or,Nat.testBit_or,Nat.testBit_shiftLeft,Bool.or_eq_true,Bool.or_eq_true]at h;rcases h with (h | h) | h
   ·simp only[Bool.and_eq_true,decide_eq_true_eq]at h
    refine⟨e,List.mem_cons_self,hb,.inl ?_⟩;have:=h.2;have hz:j-e.on=0:=by
     rcases Nat.eq_zero_or_pos (j-e.on) with q | q
     ·exact q
     ·obtain⟨m,hm⟩:=Nat.exists_eq_add_of_lt q
      rw[show j-e.on=m+1 by omega,Nat.testBit_succ]at this
      simp at this
    have:e.on≤j:=h.1;omega
   ·exact⟨e,List.mem_cons_self,hb,.inr h⟩
   ·obtain⟨e',h1,h2⟩:=kZ es h
    exact⟨e',List.mem_cons_of_mem _ h1,h2⟩
theorem qa:∀(os:List Oper) (acc:List Nat),(∀i,i<acc.length→(os.foldl dY acc).getD i 0=acc.getD i 0) ∧
  ∀k o,os[k]?=some o→∀j,Nat.testBit ((os.foldl dY acc).getD (acc.length+k) 0) j=true→∃e,e∈o.after∧Region.binds .any e=true∧(j=e.on∨Nat.testBit ((os.foldl dY acc).getD e.on 0) j=true)
 | [],acc=>⟨fun _ _=>rfl,fun k o h=>by simp at h⟩
 | o::os,acc=>by
  obtain⟨h1,h2⟩:=qa os (dY acc o);have hl:(dY acc o).length=acc.length+1:=by simp[dY]
  have old:∀i,i<acc.length→(dY acc o).getD i 0=acc.getD i 0:=fun i hi=>by
   simp only[dY,List.getD_eq_getElem?_getD,List.getElem?_append_left hi]
  refine⟨fun i hi=>?_,fun k o' ho j hj=>?_⟩
  ·rw[List.foldl_cons,h1 i (by omega),old i hi]
  ·cases k with
   | zero =>
    simp only[List.getElem?_cons_zero,Option.some.injEq]at ho;subst ho;rw[List.foldl_cons,Nat.add_zero,h1 _ (by omega)]at hj
    simp only[dY,List.getD_eq_getElem?_getD,List.getElem?_append_right (Nat.le_refl _),Nat.sub_self,List.getElem?_cons_zero,Option.getD_some]at hj;obtain⟨e,he,hb,hj⟩:=kZ _ hj;refine⟨e,by simpa using he,hb,hj.imp id fun hj=>?_⟩
    have hlt:e.on<acc.length:=by
     rcases Nat.lt_or_ge e.on acc.length with q | q
     ·exact q
     ·rw[List.getD_eq_getElem?_getD,List.getElem?_eq_none q]at hj;simp at hj
    rw[List.foldl_cons,h1 _ (by omega),old _ hlt]
    exact hj
   | succ k =>
    have:=h2 k o' (by simpa using ho) j (by rw[hl,show acc.length+1+k=acc.length+(k+1) by omega];exact hj)
    exact this
end Go.Proofs.YthdgahpomhnidaaGreat.Mx
namespace Go.Proofs.YthdgahpomhnidaaGreat.Mx
open Go
universe u
variable {P:Program}
def ll:Ex→Exit
 | .norm=>.normal
 | .exit i=>.exit i
 | .goto i=>.goto i
 | .ret=>.ret
def Inv(mt:Nat→Prop)(g0:Gh)(w0:World)(ds:List Deferred)(N:Nat)(s:St)(a:Act)(w:World):Prop:=∃g,bV mt g0 w0 (hget s.heap) s.bW s.next ds N a w g
def layS:List (Nat×AV)→List SV→List SV
 | [],sl=>sl
 | (i,a)::r,sl=>layS r (sl.set i (.v a))
theorem pF{R:Type}:∀(as:List (Nat×AV)) (sl:List SV) (K:List SV→R),laySl as sl K=K (layS as sl)
 | [],sl,K=>rfl
 | (i,a)::r,sl,K=>by rw[laySl,lP,pF r];rfl
theorem pq:∀(as:List (Nat×AV)) (sl:List SV),(layS as sl).length=sl.length
 | [],sl=>rfl
 | (i,a)::r,sl=>by rw[layS,pq r];simp
theorem fS:∀n,(cf n).length=n
 | 0=>rfl
 | n+1=>by simp[cf,fS n]
theorem dO:∀(n t:Nat),getS (cf n) t=.dead
 | 0,t=>rfl
 | n+1,0=>rfl
 | n+1,t+1=>dO n t
theorem wJ:∀l:List SV,len' l=l.length
 | []=>rfl
 | _::l=>by simp[len',wJ l]
theorem iy{g:Gh}{hp:HP}{a:Act}:∀(as:List (Nat×AV)) (sl:List SV),(∀i x,(i,x)∈as→bI g hp x (a.tmps.getD i undef))→dD g hp sl a→dD g hp (layS as sl) a
 | [],sl,_,h=>h
 | (i,x)::r,sl,hx,h=>by
  refine iy r _ (fun j y hj=>hx j y (List.mem_cons_of_mem _ hj)) fun t=>?_
  rw[l7]
  by_cases e:i=t∧i<sl.length
  ·rw[if_pos e,←e.1];exact hx i x List.mem_cons_self
  ·rw[if_neg e];exact h t
def lu(as:List (Nat×AV))(os:aK)(n nx:Nat):St:=⟨layS as (cf n),os,nx⟩
theorem oF{m:Nat}:∀(l:List (Nat×Option Nat)),mX m l=true→∀j x,aget l j=some x→j<m
 | [],_,j,x,h=>by cases h
 | (k,y)::r,h,j,x,hx=>by
  simp only[mX]at h;cases hb:Nat.blt k m with
  | false=>rw[hb]at h;cases h
  | true =>
   rw[hb]at h;rw[bH]at hx
   by_cases e:k=j
   ·exact e▸mO hb
   ·rw[if_neg e]at hx;exact oF r h j x hx
section
variable {mt:Nat→Prop} {g0:Gh} {w0:World} {ds:List Deferred} {N:Nat} {E:Env}
theorem Read.ext{s:Shape}{h:RH}{gA:Nat→Option AV}{x:s.X}{d:DS}{as:List (Nat×AV)}{os:aK}{g:Gh}{w:World}{m:List Nat}(R:Read s m h gA x d as os)(e:Ext mt g0 w0 g w)(M:Mem mt g h w.heap)(hg0:∀n,¬n∈m→g0.φ n=none):Ext mt g0 w0 (gE s d g) w:=by
 refine⟨e.os,e.tape,e.output,e.size,e.au,fun b hb=>.inl (e.ro b hb),fun b hb=>?_,fun n Q hQ=>?_⟩
 ·exact(R.ro M b hb).elim (e.dr b) .inr
 ·have hn:n∈m:=by
   by_cases q:n∈m
   ·exact q
   ·rw[hg0 n q]at hQ;cases hQ
  rw[fB (R.ids n hn)];exact e.jm n Q hQ
theorem dQ(hg0:∀n,¬n∈E.au→g0.φ n=none){R:Type}{J:Shape}{s:St}{K:J.X→Option R}{r:R}(h:dj J E.m E.au s K=some r) :
  ∃x as os,K x=some r∧(∀{R:Type} (K':List (Nat×AV)→aK→R),J.bZ x K'=K' as os)∧∀a w n,n≤N→Inv mt g0 w0 ds N s a w→Inv mt g0 w0 ds N (lu as os n (db J.ob E.m)) a w:=by
 unfold dj at h;cases hw:J.wf with
 | false=>rw[hw]at h;cases h
 | true =>
  rw[hw]at h;obtain⟨x,d,as,os,hk,R⟩:=Shape.cV h;cases hlt:mX (db J.ob E.m) d.ax with
  | false=>rw[hlt]at hk;cases hk
  | true =>
   rw[hlt]at hk;refine⟨x,as,os,hk,R.j2,fun a w n hn ⟨g,A⟩=>⟨gE J d g,R.ext A.ext A.mem hg0,R.mem A.mem hw fun j k o Q b h1 h2 h3 h4 h5=>(A.mem.own k o Q b h2 h3 h4 h5).1,?_,?_,?_,A.gz⟩⟩
   ·refine iy as _ (fun i y hi=>?_) (fun t=>by rw[dO];trivial)
    obtain⟨z,hz,h1,a',h2,h3⟩:=iG R.sl hi;have h4:getS s.bW i=.v a':=by
     have h2:svA (getS s.bW i)=some a':=h2;cases hq:getS s.bW i with
     | v b=>rw[hq]at h2;simp only[svA,Option.some.injEq]at h2;rw[h2]
     | tup _=>rw[hq]at h2;cases h2
    have h5:=A.fA i;rw[h4]at h5;exact jv.bI A.mem h3 h5
   ·show (layS as (cf n)).length≤_
    rw[pq,fS,A.gz.2];exact hn
   ·intro k hk
    have:aget d.ax k=none:=by
     cases ha:aget d.ax k with
     | none=>rfl
     | some y=>exact absurd (oF d.ax hlt k y ha) (Nat.not_lt.2 hk)
    simp only[gE,this]
theorem mC{R:Type}{J:Shape}{m n:Nat}{x:J.X}{as:List (Nat×AV)}{os:aK}(h:∀{R:Type} (K':List (Nat×AV)→aK→R),J.bZ x K'=K' as os)(K:St→R):jK J m n x K=K (lu as os n (db J.ob m)):=by
 unfold jK;rw[h,pF];rfl
theorem jr:∀(n a:Nat),idx a n=List.range' a n
 | 0,a=>rfl
 | n+1,a=>by rw[idx,jr n,List.range'_succ]
theorem Inv.drawn{s:St}{a:Act}{w:World}(h:Inv mt g0 w0 ds N s a w):Inv mt g0 w0 ds N s a {w with drawn:=w.drawn+1}:=by
 obtain⟨g,A⟩:=h;exact⟨g,⟨A.ext.os,A.ext.tape,A.ext.output,A.ext.size,A.ext.au,A.ext.ro,A.ext.dr,A.ext.jm⟩,A.mem,A.fA,A.len,A.nx,A.gz⟩
theorem kX(ok:dk P E)(hord:P.follows .mixedOrders=true)(hm0:∀b,w0.heap.size≤b→mt b){id:Nat}{ops:Array Oper}{draw:Bool}{A:Type}{s:St}{K:Ex→St→Option A}{r:A}(h:exec E (.region id ops draw) none s K=some r) :
  ∃s',K .norm s'=some r∧∀(Q:Exit→Act→World→Prop),(∀a w,Inv mt g0 w0 ds N s' a w→Q .normal a w)→∀a w,Inv mt g0 w0 ds N s a w→(Code.region id ops draw).wp P Q a w:=by
 rw[exec]at h;obtain⟨sl',h',l,hl,hK,hR⟩:=uC (next:=s.next) ops.toList 0 s.bW s.heap [] _ r (fun k o ho=>by rw[Nat.zero_add];exact ho) (by rw[Nat.mul_zero,Nat.add_zero];exact h)
 simp only[List.append_nil,List.reverse_reverse]at hK;have fresh:∀g:Gh,(∀n,s.next≤n→g.φ n=none)→(∀k,k∈idx 0 ops.toList.length→∀n,s.next+keys*k≤n→n<s.next+keys*k+keys→g.φ n=none)∧∀n,s.next+keys*ops.size≤n→g.φ n=none:=fun g hg =>
  ⟨fun k _ n h1 _=>hg n (Nat.le_trans (Nat.le_add_right _ _) h1),fun n h1=>hg n (Nat.le_trans (Nat.le_add_right _ _) h1)⟩
 refine⟨⟨sl',h',s.next+keys*ops.size⟩,?_,fun Q hQ a w hI=>?_⟩
 ·cases draw with
  | false=>exact hK
  | true =>
   cases hc:gP ops.toList (lL ops.toList) l 0 ops.toList l with
   | false=>rw[hc]at hK;cases hK
   | true=>rw[hc]at hK;exact hK
 ·have hQ':∀a w g,bV mt g0 w0 (hget h') sl' (s.next+keys*ops.size) ds N a w g→Q .normal a w:=fun a w g A=>hQ a w ⟨g,A⟩
  cases draw with
  | false =>
   obtain⟨g,A⟩:=hI;refine wp_region ?_;have e:List.range ops.size=idx 0 ops.toList.length:=by rw[jr,List.range_eq_range'];simp
   rw[e];exact qS ok hm0 hQ' _ a w g _ _ (by rw[jr];exact List.nodup_range') (fun i hi=>by have:=(iE _ _ _).1 hi;simpa using this.2) hR A.ext A.mem A.fA A.len A.gz (fresh g A.nx).1 (fresh g A.nx).2
  | true =>
   obtain⟨g,A⟩:=hI.drawn;cases hc:gP ops.toList (lL ops.toList) l 0 ops.toList l with
   | false=>rw[hc]at hK;cases hK
   | true =>
    have hu:jj ops (Array.replicate ops.size false)=idx 0 ops.toList.length:=by
     unfold jj;rw[show ops.toList.length=ops.size by simp]
     refine List.filter_eq_self.2 fun k hk=>?_
     have:=(iE _ _ _).1 hk;simp[Array.getD,show k<ops.size by omega]
    have spec:=mH ops.toList l 0 hc;have at_:∀i o,ops[i]?=some o→ops.toList[i]?=some o∧∃p,l[i]?=some p:=fun i o ho=>by
     refine⟨by rw[Array.getElem?_toList];exact ho,?_⟩
     have hi:i<l.length:=by rw[hl];simpa using (Array.getElem?_eq_some_iff.1 ho).1
     exact⟨l[i],List.getElem?_eq_getElem hi⟩
    refine wp_region_any hord (x8 ok hm0 (F:=fun k=>l.getD (k-0) ⟨[],[]⟩) (pre:=fun k j=>Nat.testBit ((lL ops.toList).getD k 0) j=true) hQ' (fun i o ho e he hb=>?_) (fun i o ho j hj=>?_) (fun i j oi oj hoi hoj hji=>?_) ops.size _ a _ g s.bW _ (by simp) (by rw[hu,jr];simp) (fun k hk hl'=>?_) (by rw[hu];exact hR) A.ext A.mem A.fA A.len A.gz (by rw[hu];exact(fresh g A.nx).1) (fresh g A.nx).2)
    ·obtain⟨h1,p,h2⟩:=at_ i o ho
     have:=(spec i o p h1 h2).1 e he hb;simpa using this
    ·have:=(qa ops.toList []).2 i o (at_ i o ho).1 j (by simpa [lL] using hj)
     exact this
    ·obtain⟨h1,p,h2⟩:=at_ i oi hoi
     obtain⟨h3,q,h4⟩:=at_ j oj hoj;have:=(spec i oi p h1 h2).2 j oj q (by simpa using hji) h3 h4
     simp only[Nat.zero_add]at this;refine this.imp (fun q=>q) fun hA=>?_
     simp only[Nat.sub_zero,List.getD_eq_getElem?_getD,h2,h4,Option.getD_some];exact hA
    ·simp[Array.getD,hk]at hl'
def ki(P:Program)(c:Code)(Q:Exit→Act→World→Prop)(a:Act)(w:World):Prop :=
 ∀(b:Frame) (k:List Item) (cs:List Frame),∃e a' w',Q e a' w'∧Arrives P (lone (b.at a (.code c::.inLoop c::k)) cs w) b k cs e a' w'
theorem jF{c:Code}{Q:Exit→Act→World→Prop}{a:Act}{w:World}(h:c.wp P (Exit.then (ki P c Q) Q) a w):ki P c Q a w:=by
 intro b k cs;obtain⟨e,a₁,w₁,hq,harr⟩:=h b (.inLoop c::k) cs;cases e with
 | normal =>
  obtain⟨e₂,a₂,w₂,hq₂,harr₂⟩:=hq b k cs;exact⟨e₂,a₂,w₂,hq₂,.of_steps (Steps.trans harr (.one step_inLoop)) harr₂⟩
 | exit id=>exact⟨_,a₁,w₁,hq,.pass (x:=.inLoop c) rfl (fun _ _=>.inl (by simp)) harr⟩
 | goto l=>exact⟨_,a₁,w₁,hq,.pass (x:=.inLoop c) rfl (fun _ _=>.inl (by simp)) harr⟩
 | ret=>exact⟨_,a₁,w₁,hq,.pass (x:=.inLoop c) rfl (fun _ _=>.inl (by simp)) harr⟩
 | panic ch=>exact⟨_,a₁,w₁,hq,.pass (x:=.inLoop c) rfl (fun _ _=>.inl (by simp)) harr⟩
 | outgrown=>exact⟨_,a₁,w₁,hq,.pass (x:=.inLoop c) rfl (fun _ _=>.inl (by simp)) harr⟩
theorem qN{c:Code}{Q:Exit→Act→World→Prop}{a:Act}{w:World}(h:ki P c Q a w):(Code.loop c).wp P Q a w:=fun b k cs =>
 let ⟨e,a',w',hq,harr⟩:=h b k cs
 ⟨e,a',w',hq,.of_steps (.one step_loop) harr⟩
theorem nS{X B:Type}{step:(X→Option B)→X→Option B}{r:B}{G:X→Prop}(h:∀rec x,(∀y,rec y=some r→G y)→step rec x=some r→G x):∀(n:Nat) (x:X),it step n x=some r→G x
 | 0,x,hx=>by rw[lB]at hx;cases hx
 | n+1,x,hx=>h (it step n) x (fun y hy=>nS h n y hy) (by rw[fC]at hx;exact hx)
def rl(P:Program)(body rest:Code)(Q:Exit→Act→World→Prop)(a:Act)(w:World):Prop :=
 ∀(b:Frame) (k:List Item) (cs:List Frame),∃e a' w',Q e a' w'∧Arrives P (lone (b.at a (.code rest::.inScope body::k)) cs w) b k cs e a' w'
theorem step_inScope{P:Program}{b:Frame}{a:Act}{k:List Item}{cs:List Frame}{w:World}{body:Code}:step P (lone (b.at a (.inScope body::k)) cs w)=.next (lone (b.at a k) cs w) :=
 step_lone_go (by simp[stepG,stepG.exec,Frame.at])
theorem step_scope{P:Program}{b:Frame}{a:Act}{k:List Item}{cs:List Frame}{w:World}{body:Code}:step P (lone (b.at a (.code (.scope body)::k)) cs w)=.next (lone (b.at a (.code body::.inScope body::k)) cs w) :=
 step_lone_go (by simp[stepG,stepG.exec,Frame.at])
def Exit.inScope(P:Program)(body:Code)(Q:Exit→Act→World→Prop):Exit→Act→World→Prop
 | .goto l,a,w=>match findLabel body l with
  | some rest=>rl P body rest Q a w
  | none=>Q (.goto l) a w
 | e,a,w=>Q e a w
theorem oH{body rest:Code}{Q:Exit→Act→World→Prop}{a:Act}{w:World}(h:rest.wp P (Exit.inScope P body Q) a w):rl P body rest Q a w:=by
 intro b k cs;obtain⟨e,a₁,w₁,hq,harr⟩:=h b (.inScope body::k) cs;cases e with
 | normal=>exact⟨.normal,a₁,w₁,hq,Steps.trans harr (.one step_inScope)⟩
 | exit id=>exact⟨.exit id,a₁,w₁,hq,fun k' hk=>harr k' (by simp[exitTo,hk])⟩
 | goto l =>
  cases hl:findLabel body l with
  | none =>
   simp only[Exit.inScope,hl]at hq;exact⟨.goto l,a₁,w₁,hq,fun k' hk=>harr k' (by simp[gotoIn,hl,hk])⟩
  | some rest' =>
   simp only[Exit.inScope,hl]at hq;obtain⟨e₂,a₂,w₂,hq₂,harr₂⟩:=hq b k cs;exact⟨e₂,a₂,w₂,hq₂,.of_steps (harr (.code rest'::.inScope body::k) (by simp[gotoIn,hl])) harr₂⟩
 | ret=>exact⟨.ret,a₁,w₁,hq,harr⟩
 | panic ch=>exact⟨.panic ch,a₁,w₁,hq,harr⟩
 | outgrown=>exact⟨.outgrown,a₁,w₁,hq,harr⟩
theorem wz{body:Code}{Q:Exit→Act→World→Prop}{a:Act}{w:World}(h:rl P body body Q a w):(Code.scope body).wp P Q a w:=fun b k cs =>
 let ⟨e,a',w',hq,harr⟩:=h b k cs
 ⟨e,a',w',hq,.of_steps (.one step_scope) harr⟩
theorem dL:∀(c:Code) (l:Nat),hasLabel c l=(findLabel c l).isSome
 | .seq a b,l=>by
  rw[hasLabel,findLabel,dL a l,dL b l];cases findLabel a l<;>simp
 | .label l',l=>by
  simp only[hasLabel,findLabel]
  by_cases e:l'=l
  ·subst e;simp[bT]
  ·rw[fZ e];simp[e]
 | .skip,_=>rfl
 | .region _ _ _,_=>rfl
 | .cond _ _ _,_=>rfl
 | .block _ _,_=>rfl
 | .loop _,_=>rfl
 | .exit _,_=>rfl
 | .goto _,_=>rfl
 | .ret,_=>rfl
 | .scope _,_=>rfl
 | .rangeFunc _ _ _ _,_=>rfl
 | .refuse _,_=>rfl
theorem kE(ok:dk P E)(hord:P.follows .mixedOrders=true)(hm0:∀b,w0.heap.size≤b→mt b)(hg0:∀n,¬n∈E.au→g0.φ n=none):∀(c:Code),
  (∀{A:Type} (s:St) (K:Ex→St→Option A) (r:A),exec E c none s K=some r→∀(Q:Exit→Act→World→Prop),(∀e s',K e s'=some r→∀a w,Inv mt g0 w0 ds N s' a w→Q (ll e) a w)→∀a w,Inv mt g0 w0 ds N s a w→c.wp P Q a w) ∧
  (∀(l:Nat) {A:Type} (s:St) (K:Ex→St→Option A) (r:A),exec E c (some l) s K=some r→∃rest,findLabel c l=some rest∧∀(Q:Exit→Act→World→Prop),(∀e s',K e s'=some r→∀a w,Inv mt g0 w0 ds N s' a w→Q (ll e) a w)→∀a w,Inv mt g0 w0 ds N s a w→rest.wp P Q a w):=by
 have lenN:∀(s:St) (a:Act) (w:World),Inv mt g0 w0 ds N s a w→len' s.bW≤N:=fun s a w ⟨g,hA⟩=>by
  rw[wJ,←hA.gz.2];exact hA.len
 intro c
 induction c with
 | skip=>exact⟨fun s K r h Q hQ a w hI=>wp_skip (hQ .norm s h a w hI),fun l A s K r h=>by cases h⟩
 | region id ops draw =>
  refine⟨fun s K r h Q hQ a w hI=>?_,fun l A s K r h=>by cases h⟩
  obtain⟨s',h1,h2⟩:=kX (mt:=mt) (g0:=g0) (w0:=w0) (ds:=ds) (N:=N) ok hord hm0 h;exact h2 Q (fun a w hI'=>hQ .norm s' h1 a w hI') a w hI
 | seq x y ihx ihy =>
  refine⟨fun {A} s K r h Q hQ a w hI=>?_,fun l A s K r h=>?_⟩
  ·rw[exec]at h
   refine wp_seq ?_;split at h
   ·refine ihx.1 s _ r h _ (fun e s' hk a w hI'=>?_) a w hI
    cases e with
    | norm=>exact ihy.1 s' K r hk Q hQ a w hI'
    | exit i=>exact hQ (.exit i) s' hk a w hI'
    | goto i=>exact hQ (.goto i) s' hk a w hI'
    | ret=>exact hQ .ret s' hk a w hI'
   ·rename_i J hJ
    obtain⟨z,hx,h⟩:=Option.bind_eq_some_iff.1 h;have h:Sum.elim (fun x=>jK J E.m (len' s.bW) x fun s'=>exec E y none s' K) some z=some r:=h
    have hlen:=lenN s a w hI;refine ihx.1 s _ z hx _ (fun e s' hk a w hI'=>?_) a w hI
    have leave:∀(o:Option A),nG (B:=A) (R:=J.X⊕A) Sum.inr o=some z→o=some r:=fun o ho=>by
     cases o with
     | none=>cases ho
     | some q =>
      simp only[nG,Option.some.injEq]at ho;subst ho;exact h
    cases e with
    | norm =>
     obtain⟨x',as,os,h1,h2,h3⟩:=dQ (N:=N) (ds:=ds) (w0:=w0) (mt:=mt) hg0 hk;simp only[Option.some.injEq]at h1;subst h1;have h:jK J E.m (len' s.bW) x' (fun s'=>exec E y none s' K)=some r:=h
     rw[mC h2]at h;exact ihy.1 _ K r h Q hQ a w (h3 a w _ hlen hI')
    | exit i=>exact hQ (.exit i) s' (leave _ hk) a w hI'
    | goto i=>exact hQ (.goto i) s' (leave _ hk) a w hI'
    | ret=>exact hQ .ret s' (leave _ hk) a w hI'
  ·rw[exec]at h
   cases hl:hasLabel x l with
   | false =>
    rw[hl]at h;obtain⟨rest,h1,h2⟩:=ihy.2 l s K r h;refine⟨rest,?_,h2⟩;have:findLabel x l=none:=by
     rw[dL]at hl;simpa using hl
    rw[findLabel,this];exact h1
   | true =>
    rw[hl]at h;obtain⟨rest,h1,h2⟩:=ihx.2 l s _ r h;refine⟨.seq rest y,by rw[findLabel,h1],fun Q hQ a w hI=>wp_seq (h2 _ (fun e s' hk a w hI'=>?_) a w hI)⟩
    cases e with
    | norm=>exact ihy.1 s' K r hk Q hQ a w hI'
    | exit i=>exact hQ (.exit i) s' hk a w hI'
    | goto i=>exact hQ (.goto i) s' hk a w hI'
    | ret=>exact hQ .ret s' hk a w hI'
 | cond c t e iht ihe =>
  refine⟨fun s K r h Q hQ a w hI=>?_,fun l A s K r h=>by cases h⟩
  rw[exec]at h;split at h
  ·rename_i b hb
   obtain⟨g,hA⟩:=hI;have h1:=aM hA.fA c;rw[hb]at h1;have h1:a.eval c=.bool b:=h1;cases b with
   | false=>exact wp_cond_false h1 (ihe.1 s K r h Q hQ a w ⟨g,hA⟩)
   | true=>exact wp_cond_true h1 (iht.1 s K r h Q hQ a w ⟨g,hA⟩)
  ·cases h
 | block id b ih =>
  refine⟨fun {A} s K r h Q hQ a w hI=>?_,fun l A s K r h=>by cases h⟩
  rw[exec]at h;refine wp_block (ih.1 s _ r h _ (fun e s' hk a w hI'=>?_) a w hI)
  cases e with
  | norm=>exact hQ .norm s' hk a w hI'
  | goto i=>exact hQ (.goto i) s' hk a w hI'
  | ret=>exact hQ .ret s' hk a w hI'
  | exit i =>
   have hk:(Bool.casesOn (Nat.beq i id) (K (.exit i) s') (K .norm s'):Option A)=some r:=hk;show Exit.inBlock id Q (.exit i) a w;unfold Exit.inBlock
   simp only
   by_cases e:i=id
   ·subst e
    rw[if_pos rfl];rw[bT]at hk;exact hQ .norm s' hk a w hI'
   ·rw[if_neg e]
    rw[fZ e]at hk;exact hQ (.exit i) s' hk a w hI'
 | loop b ih =>
  refine⟨fun s K r h Q hQ a w hI=>?_,fun l A s K r h=>by cases h⟩
  rw[exec]at h;split at h
  ·cases h
  ·rename_i J hJ
   obtain⟨x,as,os,h1,h2,h3⟩:=dQ (N:=N) (ds:=ds) (w0:=w0) (mt:=mt) hg0 h;have hlen:=lenN s a w hI;refine qN ?_;have one:∀(J:Shape) (x:J.X),it (fun rec2 x2=>jK J E.m (len' s.bW) x2 fun s3=>exec E b none s3 fun e2 s4=>match e2 with
     | .norm=>dj J E.m E.au s4 rec2
     | .exit i=>K (.exit i) s4
     | .goto i=>K (.goto i) s4
     | .ret=>K .ret s4) E.fuel x=some r→∀as os,(∀{R:Type} (K':List (Nat×AV)→aK→R),J.bZ x K'=K' as os)→∀a w,Inv mt g0 w0 ds N (lu as os (len' s.bW) (db J.ob E.m)) a w→ki P b Q a w:=fun J x h1 =>
    nS (r:=r) (G:=fun x=>∀as os,(∀{R:Type} (K':List (Nat×AV)→aK→R),J.bZ x K'=K' as os)→∀a w,Inv mt g0 w0 ds N (lu as os (len' s.bW) (db J.ob E.m)) a w→ki P b Q a w) (fun rec x hrec hx as os henc a w hI'=>by
    rw[mC henc]at hx;refine jF (ih.1 _ _ r hx _ (fun e s2 hk a w hI2=>?_) a w hI')
    cases e with
    | norm =>
     obtain⟨x2,as2,os2,k1,k2,k3⟩:=dQ (N:=N) (ds:=ds) (w0:=w0) (mt:=mt) hg0 hk;exact hrec x2 k1 as2 os2 k2 a w (k3 a w _ hlen hI2)
    | exit i=>exact hQ (.exit i) s2 hk a w hI2
    | goto i=>exact hQ (.goto i) s2 hk a w hI2
    | ret=>exact hQ .ret s2 hk a w hI2) E.fuel x h1
   have key:=nS (r:=r) (G:=fun x=>∀as os,(∀{R:Type} (K':List (Nat×AV)→aK→R),J.bZ x K'=K' as os)→∀a w,Inv mt g0 w0 ds N (lu as os (len' s.bW) (db J.ob E.m)) a w→ki P b Q a w) (fun rec x hrec hx as os henc a w hI'=>?_) E.fuel x h1
   ·exact key as os h2 a w (h3 a w _ hlen hI)
   ·rw[mC henc]at hx
    refine jF (ih.1 _ _ r hx _ (fun e s2 hk a w hI2=>?_) a w hI')
    cases e with
    | norm =>
     cases hb:leaves E (kG b) J s2 with
     | false =>
      have hk:(Bool.casesOn (leaves E (kG b) J s2) (dj J E.m E.au s2 rec) _:Option _)=some r:=hk;rw[hb]at hk;obtain⟨x2,as2,os2,k1,k2,k3⟩:=dQ (N:=N) (ds:=ds) (w0:=w0) (mt:=mt) hg0 hk;exact hrec x2 k1 as2 os2 k2 a w (k3 a w _ hlen hI2)
     | true =>
      have hk:(Bool.casesOn (leaves E (kG b) J s2) (dj J E.m E.au s2 rec) _:Option _)=some r:=hk;rw[hb]at hk;dsimp only at hk;split at hk
      ·cases hk
      ·rename_i H2 hH2
       obtain⟨x2,as2,os2,k1,k2,k3⟩:=dQ (N:=N) (ds:=ds) (w0:=w0) (mt:=mt) hg0 hk;exact one H2 x2 k1 as2 os2 k2 a w (k3 a w _ hlen hI2)
    | exit i=>exact hQ (.exit i) s2 hk a w hI2
    | goto i=>exact hQ (.goto i) s2 hk a w hI2
    | ret=>exact hQ .ret s2 hk a w hI2
 | exit i=>exact⟨fun s K r h Q hQ a w hI=>wp_exit (hQ (.exit i) s h a w hI),fun l A s K r h=>by cases h⟩
 | label l' =>
  refine⟨fun s K r h Q hQ a w hI=>wp_label (hQ .norm s h a w hI),fun l A s K r h=>?_⟩
  rw[exec]at h;cases hb:Nat.beq l' l with
  | false=>rw[hb]at h;cases h
  | true =>
   rw[hb]at h;exact⟨.skip,by rw[findLabel,beq_eq hb];simp,fun Q hQ a w hI=>wp_skip (hQ .norm s h a w hI)⟩
 | goto l'=>exact⟨fun s K r h Q hQ a w hI=>wp_goto (hQ (.goto l') s h a w hI),fun l A s K r h=>by cases h⟩
 | ret=>exact⟨fun s K r h Q hQ a w hI=>wp_ret (hQ .ret s h a w hI),fun l A s K r h=>by cases h⟩
 | scope b ih =>
  refine⟨fun {A} s K r h Q hQ a w hI=>?_,fun l A s K r h=>by cases h⟩
  rw[exec]at h;refine wz (oH (ih.1 s _ r h _ (fun e s' hk a w hI'=>?_) a w hI))
  cases e with
  | norm=>exact hQ .norm s' hk a w hI'
  | exit i=>exact hQ (.exit i) s' hk a w hI'
  | ret=>exact hQ .ret s' hk a w hI'
  | goto l =>
   cases hl:hasLabel b l with
   | false =>
    simp only[hl]at hk;have hf:findLabel b l=none:=by rw[dL]at hl;simpa using hl
    show Exit.inScope P b Q (.goto l) a w;simp only[Exit.inScope,hf];exact hQ (.goto l) s' hk a w hI'
   | true =>
    simp only[hl]at hk;obtain⟨rest,hf⟩:=Option.isSome_iff_exists.1 ((dL b l).symm.trans hl);show Exit.inScope P b Q (.goto l) a w;simp only[Exit.inScope,hf];split at hk
    ·cases hk
    ·rename_i J hJ
     obtain⟨x,as,os,h1,h2,h3⟩:=dQ (N:=N) (ds:=ds) (w0:=w0) (mt:=mt) hg0 hk;have hlen:len' s.bW≤N:=lenN s _ _ hI;have key:=nS (r:=r) (G:=fun x=>∀as os,(∀{R:Type} (K':List (Nat×AV)→aK→R),J.bZ x K'=K' as os)→∀a w,Inv mt g0 w0 ds N (lu as os (len' s.bW) (db J.ob E.m)) a w→rl P b rest Q a w) (fun rec x hrec hx as os henc a w hI'=>?_) E.fuel x h1
     ·exact key as os h2 a w (h3 a w _ hlen hI')
     ·rw[mC henc]at hx
      obtain⟨rest',hf',hw⟩:=ih.2 l _ _ r hx;rw[hf]at hf';cases hf';refine oH (hw _ (fun e s3 hk a w hI3=>?_) a w hI')
      cases e with
      | norm=>exact hQ .norm s3 hk a w hI3
      | exit i=>exact hQ (.exit i) s3 hk a w hI3
      | ret=>exact hQ .ret s3 hk a w hI3
      | goto l2 =>
       cases hb:Nat.beq l2 l with
       | true =>
        obtain rfl:=beq_eq hb;simp only[hb]at hk;obtain⟨x2,as2,os2,k1,k2,k3⟩:=dQ (N:=N) (ds:=ds) (w0:=w0) (mt:=mt) hg0 hk;show Exit.inScope P b Q (.goto l2) a w;simp only[Exit.inScope,hf];exact hrec x2 k1 as2 os2 k2 a w (k3 a w _ hlen hI3)
       | false =>
        simp only[hb]at hk;cases hl2:hasLabel b l2 with
        | true=>simp only[hl2]at hk;cases hk
        | false =>
         simp only[hl2]at hk;have hf2:findLabel b l2=none:=by rw[dL]at hl2;simpa using hl2
         show Exit.inScope P b Q (.goto l2) a w;simp only[Exit.inScope,hf2];exact hQ (.goto l2) s3 hk a w hI3
 | _=>exact⟨fun s K r h=>(by cases h),fun l A s K r h=>(by cases h)⟩
end
end Go.Proofs.YthdgahpomhnidaaGreat.Mx
namespace Go.Proofs.YthdgahpomhnidaaGreat.Mx
open Go
universe u
variable {P:Program}
def resRun(tmps:Array Value):ResultVar→Sem Value
 | .tmp t=>pure (tmps.getD t undef)
 | .cell a t=>do loadVar t (←asAddr (tmps.getD a undef))
section
variable {mt:Nat→Prop} {g0:Gh} {w0:World} {ds:List Deferred} {N:Nat} {E:Env}
theorem BB(T:bL P E.ti){s:St}{a:Act}{w:World}{g:Gh}(A:bV mt g0 w0 (hget s.heap) s.bW s.next ds N a w g){rv:ResultVar}{av:AV}(h:resAV s E.ti rv=some av):∃V,(resRun a.tmps rv).run P w=.ok V w∧bI g w.heap av V:=by
 cases rv with
 | tmp t =>
  refine⟨_,rfl,?_⟩;have h1:=A.fA t;have h:svA (getS s.bW t)=some av:=h;cases hq:getS s.bW t with
  | v b=>rw[hq]at h h1;simp only[svA,Option.some.injEq]at h;rw[h]at h1;exact h1
  | tup _=>rw[hq]at h;cases h
 | cell b t =>
  simp only[resAV]at h;split at h
  ·rename_i n off i hs hi
   split at h
   ·rename_i cs ho
    split at h
    ·rename_i l hl
     have h1:=A.fA b;rw[hs]at h1;have hev:(loadM i (.v (.c (.ptr n off)))).eval 0 (hget s.heap) ⟨[],[]⟩=some (.v av,hget s.heap,⟨[n],[]⟩):=by
      simp only[loadM,MA.eval,ho,hl,h,mS]
     obtain⟨V,k1,k2,_⟩:=sJ (T t i hi) A.mem h1 hev;refine⟨V,?_,k2⟩;obtain⟨Q,bl,q1,q2,q3⟩:=h1;rw[←k1,q3];simp only[resRun,q3,asAddr,Instr.loadAt,Instr.sureAddr]
    ·cases h
   ·cases h
  ·cases h
theorem m9(T:bL P E.ti){s:St}{a:Act}{w:World}{g:Gh}(A:bV mt g0 w0 (hget s.heap) s.bW s.next ds N a w g):∀(rs:List ResultVar) (avs:List AV),rs.map (resAV s E.ti)=avs.map some→∃Vs,(rs.mapM (resRun a.tmps)).run P w=.ok Vs w∧All2 (bI g w.heap) avs Vs
 | [],[],_=>⟨[],rfl,trivial⟩
 | rv::rs,av::avs,h=>by
  simp only[List.map_cons,List.cons.injEq]at h;obtain⟨V,h1,h2⟩:=BB T A h.1;obtain⟨Vs,k1,k2⟩:=m9 T A rs avs h.2;exact⟨V::Vs,by simp only[List.mapM_cons,Sem.run_bind,h1,Result.andThen_ok,k1,Sem.run_pure],h2,k2⟩
 | [],_::_,h=>by cases h
 | _::_,[],h=>by cases h
theorem xD{h:RH}{d:DS}{l:List (Option AV)}:∀(ss:List (Nat×AF)) (as:List (Nat×AV)) (i:Nat),seqFrom ss i l.length=true→All2 (o8 h d (nthO l)) ss as→∃avs:List AV,l.drop i=avs.map some∧All2 (jv h d) (as.map (·.2)) avs
 | [],[],i,hs,_=>by
  have:=beq_eq hs;exact⟨[],by rw[this];simp,trivial⟩
 | (j,f)::ss,(j',a)::as,i,hs,⟨h1,h2⟩=>by
  simp only[seqFrom,Bool.and_eq_true]at hs;obtain rfl:=beq_eq hs.1;obtain⟨avs,h3,h4⟩:=xD ss as (j+1) hs.2 h2;obtain⟨h5,a',h6,h7⟩:=h1
  simp only at h5 h6 h7
  rw[←h5]at h6;have:∀(l:List (Option AV)) (j:Nat) (a':AV),nthO l j=some a'→l.drop j=some a'::l.drop (j+1):=by
   intro l
   induction l with
   | nil=>intro j a' h;cases h
   | cons x l ih =>
    intro j a' h;cases j with
    | zero=>simp only[nthO]at h;simp[h]
    | succ j=>simpa using ih j a' h
  exact⟨a'::avs,by rw[this l j a' h6,h3];rfl,h7,h4⟩
 | [],_::_,_,_,h=>h.elim
 | _::_,[],_,_,h=>h.elim
theorem decOuts_spec{R:Type}{m:List Nat}{h:RH}{gA:Nat→Option AV}:∀(ss:List Shape) (K:iv ss→R) (r:R),iQ m h gA ss K=some r→∃rr,r=K rr∧∃so,so∈ss∧∃x d as os,Read so m h gA x d as os ∧
  ∀Q:Shape→List (Nat×AV)→aK→Prop,Q so as os→kV ss rr Q
 | [],K,r,hk=>by cases hk
 | [so],K,r,hk=>by
  obtain⟨x,d,as,os,h1,h2⟩:=Shape.cV (show so.decK m h gA (fun x _=>some (K x))=some r from hk)
  simp only[Option.some.injEq]at h1;refine⟨x,h1.symm,so,List.mem_singleton.2 rfl,x,d,as,os,h2,fun Q hQ=>?_⟩
  obtain⟨as',os',L⟩:=Shape.laid so x;obtain⟨rfl,rfl⟩:=L.same h2.j2;exact⟨_,_,L,hQ⟩
 | so::t::ss,K,r,hk=>by
  have hk:(match so.decK m h gA (fun x _=>some (K (Sum.inl x))) with
   | some y=>some y
   | none=>iQ m h gA (t::ss) fun y=>K (Sum.inr y))=some r:=hk
  split at hk
  ·rename_i y hy
   cases hk;obtain⟨x,d,as,os,h1,h2⟩:=Shape.cV hy;simp only[Option.some.injEq]at h1;refine⟨Sum.inl x,h1.symm,so,List.mem_cons_self,x,d,as,os,h2,fun Q hQ=>?_⟩
   obtain⟨as',os',L⟩:=Shape.laid so x;obtain⟨rfl,rfl⟩:=L.same h2.j2;exact⟨_,_,L,hQ⟩
  ·obtain⟨rr,h1,so',h2,x,d,as,os,h3,h4⟩:=decOuts_spec (t::ss) (fun y=>K (Sum.inr y)) r hk
   exact⟨Sum.inr rr,h1,so',List.mem_cons_of_mem _ h2,x,d,as,os,h3,h4⟩
theorem gJ(T:bL P E.ti)(hg0:∀n,¬n∈E.au→g0.φ n=none){fn:Func}{outs:List Shape}(hwf:outs.all Shape.wf=true){e:Ex}{s:St}{r:iv outs}(h:fin E fn outs e s=some r){a:Act}{w:World}(hI:Inv mt g0 w0 ds N s a w) :
  (ll e=.normal∨ll e=.ret)∧a.defers=ds∧∃V,(results fn a.tmps).run P w=.ok V w∧kV outs r fun _ as os=>∃g',Ext mt g0 w0 g' w∧Mem mt g' (hget os) w.heap∧aV g' w.heap (fG as) V:=by
 have main:(Bool.casesOn (outs.all fun o=>seqFrom o.sl 0 fn.results.size) none (iQ E.au (hget s.heap) (nthO (fn.results.toList.map (resAV s E.ti))) outs id):Option (iv outs))=some r →
   a.defers=ds∧∃V,(results fn a.tmps).run P w=.ok V w∧kV outs r fun _ as os=>∃g',Ext mt g0 w0 g' w∧Mem mt g' (hget os) w.heap∧aV g' w.heap (fG as) V:=fun h=>by
  obtain⟨g,A⟩:=hI;refine⟨A.gz.1,?_⟩;cases hsq:(outs.all fun o=>seqFrom o.sl 0 fn.results.size) with
  | false=>rw[hsq]at h;cases h
  | true =>
   rw[hsq]at h;obtain⟨rr,h1,so,h2,x,d,as,os,R,hO⟩:=decOuts_spec outs id r h;obtain rfl:r=rr:=h1;have hs:=List.all_eq_true.1 hsq so h2;obtain⟨avs,h3,h4⟩:=xD (l:=fn.results.toList.map (resAV s E.ti)) so.sl as 0 (by simpa using hs) R.sl
   rw[List.drop_zero]at h3;obtain⟨Vs,h5,h6⟩:=m9 T A _ avs h3;have hVs:All2 (bI (gE so d g) w.heap) (as.map (·.2)) Vs:=All2.comp (R:=jv (hget s.heap) d) (S:=bI g w.heap) (T:=bI (gE so d g) w.heap) (fun _ _ _ p q=>jv.bI A.mem p q) h4 h6
   have hrun:(fn.results.mapM (resRun a.tmps)).run P w=.ok Vs.toArray w:=by
    rw[←Array.toArray_toList (xs:=fn.results),List.mapM_toArray,Sem.run_map,h5];rfl
   have hres:results fn a.tmps=(do let vs ←fn.results.mapM (resRun a.tmps);pure (if h:vs.size=1 then vs[0] else .tuple vs)):=by
    unfold results
    congr 1
   refine⟨_,by rw[hres,Sem.run_bind,hrun];rfl,hO _ ⟨gE so d g,R.ext A.ext A.mem hg0,R.mem A.mem (List.all_eq_true.1 hwf so h2) fun j k o Q b h1 h2 h3 h4 h5=>(A.mem.own k o Q b h2 h3 h4 h5).1,?_⟩⟩
   match as,Vs,hVs with
   | [],[],_=>exact⟨[],rfl,trivial⟩
   | [a1],[v1],hv=>exact hv.1
   | a1::a2::r1,v1::v2::vs,hv =>
    refine⟨v1::v2::vs,?_,hv⟩;rw[dif_neg];simp
   | [],_::_,hv=>exact hv.elim
   | [_],[],hv=>exact hv.elim
   | [_],_::_::_,hv=>exact hv.2.elim
   | _::_::_,[],hv=>exact hv.elim
   | _::_::_,[_],hv=>exact hv.2.elim
 cases e with
 | norm=>exact⟨.inl rfl,main h⟩
 | ret=>exact⟨.inr rfl,main h⟩
 | exit i=>cases h
 | goto i=>cases h
end
theorem tP{f : Nat}{fn : Func}{c : Code}{S : ah}(Ev : S.ins.X → Env)(hf : P.funcs[f]? = some fn)(hb : fn.body = some c)(hname : (fn.name == "runtime.NumGoroutine") = false)(hord : P.follows .mixedOrders = true)
    (ok:∀x,dk P (Ev x)) (hkeep:∀x,(Ev x).au=S.au) (E7:S.ins.wf=true) (C9:S.outs.all Shape.wf=true) (hrun:∀x r,S.f x=some r→tq (Ev x) fn c S x=some r):Sound P f S:=by
  refine⟨E7,C9,fun x r hr mt g w vs as os L M hmt hg hargs=>.inl ⟨?_,?_⟩⟩
  · have hbn:fn.body.isNone=false:=by rw[hb];rfl
    simp only[callFunc,Sem.run_bind,run_program,Result.andThen_ok,hf,hname,hbn,Bool.false_eq_true,if_false,Sem.run_pure]
  · have h1:=hrun x r hr
    unfold tq start at h1;have hk0:∀n,¬n∈(Ev x).au→(gK S.au g).φ n=none:=fun n hn=>by
      rw[hkeep x]at hn;show (if n∈S.au then g.φ n else none)=none
      rw[if_neg hn]
    have e0:Ext mt (gK S.au g) w g w:=⟨rfl,rfl,rfl,Nat.le_refl _,fun _ _ _=>rfl,fun _ h=>h,fun _ h=>.inl h,fun n Q h=>by
      have h:(if n∈S.au then g.φ n else none)=some Q:=h
      split at h
      · exact h
      · cases h⟩
    rw[L.j2,pF]at h1;refine calls_of_wp hf hb ((kE (E:=Ev x) (mt:=mt) (g0:=gK S.au g) (w0:=w) (ds:=[]) (N:=(vs++Array.replicate (fn.ntmps-vs.size) undef).size) (ok x) hord hmt hk0 c).1 _ _ r h1 _ (fun e s' hk a w' hI=>?_) _ _ ⟨g,e0,M,?_,?_,hg,rfl,rfl⟩)
    · obtain⟨h2,h3,V,h4,h5⟩:=gJ (ok x).1 hk0 C9 hk hI
      rcases h2 with h2 | h2
      · rw[h2];exact⟨h3,V,h4,V,rfl,h5⟩
      · rw[h2];exact⟨h3,V,h4,V,rfl,h5⟩
    · refine iy as _ (fun i y hi=>?_) (fun t=>by rw[dO];trivial)
      have h2:=hargs i y hi;have:(vs++Array.replicate (fn.ntmps-vs.size) undef).getD i undef=vs.getD i undef:=by
        simp only[Array.getD_eq_getD_getElem?,Array.getElem?_append];split
        · rfl
        · rename_i hlt
          rw[Array.getElem?_eq_none (xs:=vs) (Nat.not_lt.1 hlt),Array.getElem?_replicate];split<;>rfl
      rw[this];exact h2
    · show (layS as (cf fn.ntmps)).length≤_
      rw[pq,fS];simp;omega
end Go.Proofs.YthdgahpomhnidaaGreat.Mx
namespace Go.Proofs.YthdgahpomhnidaaGreat.Mx
open Go
variable {P:Program}
theorem FnsOk.nil:∀f S,S∈fnsOf [] f→Sound P f S:=fun f S h=>by cases h
theorem FnsOk.cons{k:Nat}{T:ah}{l:List (Nat×ah)}(h:Sound P k T)(hl:∀f S,S∈fnsOf l f→Sound P f S):∀f S,S∈fnsOf ((k,T)::l) f→Sound P f S:=fun f S hS=>by
 by_cases e:k=f
 ·subst e
  simp only[fnsOf,bT,List.mem_cons]at hS;rcases hS with rfl | hS
  ·exact h
  ·exact hl k S hS
 ·simp only[fnsOf,fZ e]at hS
  exact hl f S hS
end Go.Proofs.YthdgahpomhnidaaGreat.Mx

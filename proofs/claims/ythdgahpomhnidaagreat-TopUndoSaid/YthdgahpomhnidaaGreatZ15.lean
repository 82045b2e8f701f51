import Derived.Test.YthdgahpomhnidaaGreatZ14
set_option linter.unusedSimpArgs false
set_option linter.unusedVariables false
namespace Go.Proofs.YthdgahpomhnidaaGreat.Tp
open Go Mx Pc Run Field Gen GenL Fl Wd Ft Ln Nav Mn
set_option maxHeartbeats 4000000
def KD(l l':List ag):Prop:=∀i,i<32→kd (l'.getD i eN)=1→kd (l.getD i eN)=1
theorem Sub.CQ{l l':List ag}(h:Sub l l'):KD l l':=fun i hi hk=>by
 rcases h.2 i hi with q | q
 ·rw[q]at hk;exact absurd (show (0:Int)=1 from hk) (by decide)
 ·rw[←q.1];exact hk
theorem KD.refl(l:List ag):KD l l:=fun _ _ h=>h
theorem KD.trans{l l1 l2:List ag}(a:KD l l1)(b:KD l1 l2):KD l l2:=fun i hi h=>a i hi (b i hi h)
theorem KD.any{l l':List ag}(h:KD l l')(ha:cL l'=true):cL l=true:=by
 obtain⟨i,hi,hk⟩:=l6.1 ha;exact l6.2 ⟨i,hi,h i hi hk⟩
theorem Du{c:List Int}{l:List ag}(h:EI c l)(its:List ak)(sd fr a b:Int):KD l (dT sd fr l its a b).1:=by
 have hh:Sub l (cZ l its b (gC sd fr a b l its)).1:=pH h its b _;unfold dT;split
 ·exact KD.refl l
 ·split
  ·exact hh.CQ
  ·rename_i q
   exact hh.CQ.trans (sf (h.sub hh) _ _ _ _ _ q).CQ
section
variable (s fr fl sta g0 g1 g2 g3:Int) {c:List Int} {l:List ag} {its:List ak}
theorem BD(h:EI c l)(its:List ak){row:Nat}(hr:row<32)(j:Nat):KD l (gr s fr c l its row j).1:=by
 unfold gr;split
 ·split
  ·intro i hi hk
   dsimp only at hk;rw[bn _ _ _ _ _ (by have:=h.len;omega)]at hk
   split at hk
   ·rename_i e;subst e;exact hk
   ·exact hk
  ·exact KD.refl l
 ·split
  ·exact Du h its _ _ _ _
  ·exact KD.refl l
theorem FH(h:EI c l)(aJ inp:Int):KD l (Gd.cJ c l its g0 g1 g2 g3 aJ inp).2.2.2.2.1:=by
 unfold Gd.cJ;split
 ·exact KD.refl l
 ·rename_i q
  split
  ·exact KD.refl l
  ·split
   ·show KD l (Gd.mD l its aJ).1
    unfold Gd.mD;split
    ·exact KD.refl l
    ·have hn:¬ai l aJ<0:=fun z=>q (.inl z)
     obtain⟨r,hr,er,hk,_⟩:=cI h.len hn;have e2:Gd.ai l aJ=ai l aJ:=rfl;show KD l (l.set (Gd.ai l aJ).toNat (Gd.nO (l.getD (Gd.ai l aJ).toNat eN)));rw[e2,er,Int.toNat_natCast];exact(Sub.one h hr (xj h hr (by rw[hk];decide))).CQ
   ·split
    ·exact KD.refl l
    ·split
     ·exact KD.refl l
     ·split
      ·exact KD.refl l
      ·exact KD.refl l
theorem xi(h:EI c l)(aJ inp:Int)(left:Bool){row:Nat}(hr:row<32):KD l (kT s fr c aJ inp row (g0,g1,g2,g3,left,l,its)).2.2.2.2.2.1:=by
 unfold kT;dsimp only;split
 ·exact BD s fr h its hr _
 ·split
  ·exact KD.refl l
  ·split
   ·exact FH g0 g1 g2 g3 h aJ inp
   ·exact KD.refl l
theorem Cq(h:EI c l)(aJ how inp:Int)(left:Bool):KD l (ko s fr c aJ how inp (g0,g1,g2,g3,left,l,its)).2.2.2.2.2.1:=by
 unfold ko;dsimp only;split
 ·exact KD.refl l
 ·rename_i q
  obtain⟨r,hr,er,_⟩:=cI h.len q;split
  ·exact KD.refl l
  ·split
   ·rw[er,Int.toNat_natCast]
    exact xi s fr g0 g1 g2 g3 h aJ _ left hr
   ·split
    ·rw[er,Int.toNat_natCast]
     exact xi s fr g0 g1 g2 g3 h aJ _ left hr
    ·exact KD.refl l
theorem Fo(c:List Int)(l:List ag)(its:List ak)(aJ:Int){inp:Int}(h:¬(4<inp∧inp≤10)∨inp=9):Gd.cJ c l its g0 g1 g2 g3 aJ inp=(g0,g1,g2,g3,l,its):=by
 unfold Gd.cJ;split
 ·rfl
 ·rw[if_neg (by omega),if_neg (by omega),if_neg (by omega),if_neg (by omega),if_neg (by omega)]
end
section
variable (s fr fl g0 g1 g2 g3:Int) (h0 i0:Int) (p0:Bool) (h1 i1:Int) (p1:Bool) (h2 i2:Int) (p2:Bool) (h3 i3:Int) (p3:Bool)
theorem BE(hf:0≤fr∧fr≤100001)(hf1:1≤fl)(hf3:fl≤3){had left:Bool}{l:List ag}{its:List ak}(h:WO (cells s fl) l its g0 g1 g2 g3){z}
  (hz:iV s fr fl 0 (had,g0,g1,g2,g3,left,l8 s fr fl (cR (de s fr (cells s fl) (l,its) 32).1 (de s fr (cells s fl) (l,its) 32).2 32).1,(cR (de s fr (cells s fl) (l,its) 32).1 (de s fr (cells s fl) (l,its) 32).2 32).2)=some z) :
  f47.L1 (had,left,0,s,fr,fl,0,g0,g1,g2,g3,0,0,0,0,0,0,0,0,cells s fl,l,its,())=some z:=by
 refine OK.eq ?_;unfold f47.L1;refine OK.loop (fun i:Nat=>(had,left,(i:Int),s,fr,fl,0,g0,g1,g2,g3,0,0,0,0,0,0,0,0,cells s fl,(de s fr (cells s fl) (l,its) i).1,(de s fr (cells s fl) (l,its) i).2,())) (fun i=>i≤32) (fun i=>32-i) (fun rec i hi ih=>?_) 0 rfl (Nat.zero_le _) (by decide)
 obtain⟨a,b⟩:=la s fr (fu s fl) (p:=(l,its)) h.ei h.it i hi;have hl:=a.len;dsimp only;rw[af]
 by_cases q:i<32
 ·have nx:=ih (i+1) (by omega) (by omega) _ rfl
  rw[ny]at nx;generalize de s fr (cells s fl) (l,its) i=P at *
  obtain⟨l1,i1'⟩:=P;dsimp only at a b hl nx ⊢;have eK:(l1.getD i Run.zE).1=kd (l1.getD i eN):=rfl;have eS:(l1.getD i Run.zE).2.2.2.2.2.2.2.2.2.2=sn (l1.getD i eN):=rfl;rw[if_pos (by omega),ao (by omega),cond_true,wr (x:=(i:Int)+1) (by omega),Int.toNat_natCast,eK,eS]
  unfold pN at nx;dsimp only at nx
  by_cases k0:kd (l1.getD i eN)=0
  ·rw[if_pos (.inl k0)]at nx
   rw[beq_iff_eq.2 k0,cond_true];exact nx
  ·rw[beq_eq_false_iff_ne.2 k0,cond_false]
   by_cases k1:kd (l1.getD i eN)=1
   ·rw[if_pos (.inr (.inl k1))]at nx
    rw[beq_iff_eq.2 k1,cond_true];exact nx
   ·rw[beq_eq_false_iff_ne.2 k1,cond_false,af]
    by_cases k2:sn (l1.getD i eN)>0
    ·rw[if_pos (.inr (.inr k2))]at nx
     rw[if_pos k2];exact nx
    ·rw[if_neg (fun z=>by rcases z with z | z | z<;>contradiction)]at nx
     have rm:=wu s fr fl 0 g0 g1 g2 g3 (bX s fl) a.kf i1' (i:Int);have ra:=xA s fr fl 0 g0 g1 g2 g3 (fu s fl) a b q k0 (gN (cells s fl) l1 s fr i);rw[show (!(kd (l1.getD i eN)==1))=true by rw[beq_eq_false_iff_ne.2 k1];rfl]at ra
     rw[if_neg k2,rm];simp only[Option.bind_some];rw[ra];simp only[Option.bind_some];unfold rj
     by_cases m:1≤gN (cells s fl) l1 s fr i∧gN (cells s fl) l1 s fr i≤4
     ·rw[if_pos m]at nx ⊢
      exact nx
     ·rw[if_neg m]at nx ⊢
      exact nx
 ·have:i=32:=by omega
  subst this;rw[if_neg (by omega)]
  clear ih;obtain⟨a',b'⟩:=qX a b 32 (Nat.le_refl _);have re:=AP s fr fl a';have hcl:=bR s fl;have ral:=Dv s fr fl 0 (cells s fl) g0 g1 g2 g3 (by omega) a.r9 (iJ b)
  rw[ral];simp only[Option.bind_some];generalize de s fr (cells s fl) (l,its) 32=P at *
  generalize cR P.1 P.2 32=A at *
  obtain⟨l2,its2⟩:=A;dsimp only at a' b' re hz ⊢;have g:=cG s fl;unfold GC at g;refine OK.aD (R:=fun y=>y=Sum.inl (had,left,s,fr,fl,0,g0,g1,g2,g3,0,0,0,0,0,0,0,0,cells s fl,l8 s fr fl l2,its2,())) ?_ ?_
  ·unfold l8
   by_cases t:Int.tmod fr 16=0
   ·rw[beq_iff_eq.2 t,cond_true,if_neg (fun z=>z t),uc (cells s fl) (bX s fl) hcl,rG]
    simp only[Option.bind_some];rw[af,if_pos (by omega),Int.tmod_eq_emod_of_nonneg g.1,Int.tdiv_eq_ediv_of_nonneg g.1,wr (x:=aG s fl/24) (by omega),nv l2 (by have:=a'.len;omega)]
    simp only[Option.bind_some];rw[af]
    by_cases p:0≤cg l2 (aG s fl%24) (aG s fl/24)
    ·rw[if_neg (by omega),if_pos p]
     exact OK.ret rfl
    ·rw[if_pos (by omega),if_neg p,Ao]
     simp only[Option.bind_some];have k:=uU a'.len (yi (aG s fl)) (by show 1≤(2:Int)∧(2:Int)≤4;decide)
     refine OK.call k ?_;exact OK.ret rfl
   ·rw[beq_eq_false_iff_ne.2 t,cond_false,if_pos t]
    exact OK.ret rfl
  ·rintro _ rfl
   simp only[Sum.elim_inl];generalize l8 s fr fl l2=l3 at *
   rw[pe s fr fl 0 g0 g1 g2 g3 re its2];simp only[Option.bind_some];unfold iV at hz;dsimp only at hz;cases ha:cL l3 with
   | false =>
    rw[ha,cond_false]at hz;rw[Bool.not_false,cond_true];cases had with
    | true=>cases hz;exact OK.ret rfl
    | false=>cases hz;exact OK.ret rfl
   | true =>
    rw[ha,cond_true]at hz;rw[Bool.not_true,cond_false];cases left with
    | false =>
     rw[cond_false]at hz;rw[cond_false];cases hz;exact OK.ret rfl
    | true =>
     rw[cond_true]at hz;simp only[cond_true];obtain⟨y,ey,fl',sta',l',its',ey2,_,_,_,_,_,ed⟩:=sF s fr fl 0 g0 g1 g2 g3 had true hf1 hf3 re b';rw[ey,ey2]at hz;cases hz;unfold x4 at ed
     by_cases q3:fl≥3
     ·rw[if_pos q3]at ed
      cases ed;rw[beq_iff_eq.2 (show fl=3 by omega),cond_true]
      exact OK.ret rfl
     ·rw[if_neg q3]at ed
      obtain⟨f,ef,eb⟩:=zX s fr fl 0 g0 g1 g2 g3 hf1 (by omega) re b'
      rw[←ef]at ed;cases ed;rw[beq_eq_false_iff_ne.2 (show fl≠3 by omega),cond_false,eb]
      exact OK.ret rfl
end
end Go.Proofs.YthdgahpomhnidaaGreat.Tp
namespace Go.Proofs.YthdgahpomhnidaaGreat.Tp
open Go Mx Pc Run Field Gen GenL Fl Wd Ft Ln Nav Mn
set_option maxHeartbeats 4000000
section
variable (s fr fl g0 g1 g2 g3:Int) (h0 i0:Int) (p0:Bool) (h1 i1:Int) (p1:Bool) (h2 i2:Int) (p2:Bool) (h3 i3:Int) (p3:Bool)
theorem zj(hf:0≤fr∧fr≤100001)(hf1:1≤fl)(hf3:fl≤3){m0:FT}(hM:MW (cells s fl) m0){R:Nat→FT}(eR:R=j6 s fr fl [h0,h1,h2,h3] [i0,i1,i2,i3] [p0,p1,p2,p3] m0){had:Bool}(hhad:((R 4).1||cL (R 4).2.2.2.2.2.2.1)=had)(hleft:(R 4).2.2.2.2.2.1=false){z}(hz:iV s fr fl 0 (R 9)=some z) :
  f47.L2 (had,false,0,s,fr,fl,0,(R 4).2.1,(R 4).2.2.1,(R 4).2.2.2.1,(R 4).2.2.2.2.1,h0,i0,p0,h1,i1,p1,h2,i2,p2,h3,i3,p3,0,0,0,0,0,0,0,0,cells s fl,(R 4).2.2.2.2.2.2.1,(R 4).2.2.2.2.2.2.2,())=some z:=by
 refine OK.eq ?_;have hR:∀n,MW (cells s fl) (R n):=fun n=>by rw[eR];exact lM s fr fl _ _ _ hM n
 have hS:∀n,R (n+1)=ov s fr fl [h0,h1,h2,h3] [i0,i1,i2,i3] [p0,p1,p2,p3] n (R n):=fun n=>by rw[eR];rfl
 clear eR hM;unfold f47.L2;refine OK.loop (fun k:Nat=>(had,(R (4+k)).2.2.2.2.2.1,(k:Int),s,fr,fl,0,(R (4+k)).2.1,(R (4+k)).2.2.1,(R (4+k)).2.2.2.1,(R (4+k)).2.2.2.2.1,h0,i0,p0,h1,i1,p1,h2,i2,p2,h3,i3,p3,0,0,0,0,0,0,0,0,cells s fl,(R (4+k)).2.2.2.2.2.2.1,(R (4+k)).2.2.2.2.2.2.2,())) (fun k=>k≤4∧((R (4+k)).1||cL (R (4+k)).2.2.2.2.2.2.1)=had∧(1≤k→(R (4+k)).1=had)) (fun k=>4-k) (fun rec k hj ih=>?_) 0 (by rw[←hleft];rfl) ⟨Nat.zero_le _,hhad,fun h=>absurd h (by decide)⟩ (by decide)
 obtain⟨hk4,hhad,hhad1⟩:=hj;have hw:=hR (4+k);have nx:=fun hq=>ih (k+1) hq (by omega) _ rfl
 dsimp only at nx ⊢;rw[af]
 by_cases q:k<4
 ·have e1:=hS (4+k)
  rw[show 4+(k+1)=4+k+1 by omega,e1]at nx
  generalize R (4+k)=m at *
  obtain⟨was,g0,g1,g2,g3,left,l,its⟩:=m;have hw':WO (cells s fl) l its g0 g1 g2 g3:=hw;have hl:=hw'.ei.len;dsimp only at nx hhad hhad1 ⊢;unfold ov at nx;rw[if_neg (by omega),if_pos (by omega),show 4+k-4=k by omega]at nx
  dsimp only at nx;have hk:=Cq s fr g0 g1 g2 g3 (its:=its) hw'.ei (k:Int) (List.getD [h0,h1,h2,h3] k 0) (List.getD [i0,i1,i2,i3] k 0) left;have nx:=nx ⟨by omega,by
   rw[hhad];cases ea:cL (ko s fr (cells s fl) (k:Int) (List.getD [h0,h1,h2,h3] k 0) (List.getD [i0,i1,i2,i3] k 0) (g0,g1,g2,g3,left,l,its)).2.2.2.2.2.1 with
   | false=>exact Bool.or_false _
   | true =>
    rw[hk.any ea,Bool.or_true]at hhad;rw[←hhad];rfl,fun _=>hhad⟩
  unfold ko at nx;dsimp only at nx;have ew1:IntKind.wrap .i64 ((k:Int)+1)=((k+1:Nat):Int):=by rw[wr (by omega)];omega
  rw[if_pos (by omega),ga l (by omega),ew1]
  simp only[Option.bind_some];have ik:ae (k:Int) 4=true:=ao (by omega)
  rw[af]
  by_cases q1:ai l k<0
  ·rw[if_pos q1]at nx ⊢
   dsimp only at nx;obtain⟨b,eb,hb⟩:=nx;rw[eb];exact OK.ret hb
  obtain⟨r,hr,er,hk1,_⟩:=cI hl q1;have hk0:kd (l.getD r eN)≠0:=by rw[hk1];decide
  have eS:(l.getD r Run.zE).2.2.2.2.2.2.2.2.2.2=sn (l.getD r eN):=rfl;rw[if_neg q1,er,Int.toNat_natCast]at nx;rw[if_neg q1,er,ao (by omega),cond_true,Int.toNat_natCast,eS,af]
  by_cases q2:sn (l.getD r eN)>0
  ·rw[if_pos q2]at nx ⊢
   dsimp only at nx;obtain⟨b,eb,hb⟩:=nx;rw[eb];exact OK.ret hb
  rw[if_neg (show ¬0<sn (l.getD r eN) from q2)]at nx
  rw[if_neg q2,ik,Int.toNat_natCast,cond_true,cond_true];obtain⟨how,ehow⟩:∃how,how=List.getD [h0,h1,h2,h3] k 0:=⟨_,rfl⟩
  obtain⟨inp0,einp⟩:∃inp0,inp0=List.getD [i0,i1,i2,i3] k 0:=⟨_,rfl⟩
  rw[←ehow,←einp]at nx;rw[←ehow]
  by_cases q3:how=1∨how=2
  ·obtain⟨inp,hin,w,ew,nx2⟩:∃inp,inp=(if how=2 then pX (cells s fl) l its k else inp0)∧∃w,w=kT s fr (cells s fl) (k:Int) inp r (g0,g1,g2,g3,left,l,its)∧OK (rec (had,w.2.2.2.2.1,((k+1:Nat):Int),s,fr,fl,0,w.1,w.2.1,w.2.2.1,w.2.2.2.1,h0,i0,p0,h1,i1,p1,h2,i2,p2,h3,i3,p3,0,0,0,0,0,0,0,0,cells s fl,w.2.2.2.2.2.1,w.2.2.2.2.2.2,())) fun b=>b=z:=by
    refine⟨_,rfl,_,rfl,?_⟩
    by_cases q4:how=2
    ·rw[if_pos q4]at nx ⊢
     exact nx
    ·rw[if_neg q4,if_pos (q3.resolve_right q4)]at nx
     rw[if_neg q4];exact nx
   refine OK.aD (R:=fun y=>y=Sum.inl (had,left,(k:Int),(r:Int),s,fr,fl,0,g0,g1,g2,g3,h0,i0,p0,h1,i1,p1,h2,i2,p2,h3,i3,p3,0,0,0,0,0,0,0,0,cells s fl,l,its,())) ?_ ?_
   ·by_cases q4:how=1
    ·rw[show (how !=1)=false by rw[q4];rfl,cond_false]
     exact OK.ret rfl
    ·have q5:how=2:=q3.resolve_left q4
     rw[bne_iff_ne.2 q4,cond_true,show (how !=2)=false by rw[q5];rfl,cond_false]
     exact OK.ret rfl
   rintro _ rfl
   simp only[Sum.elim_inl];rw[ik,cond_true,cond_true,Int.toNat_natCast,←ehow,←einp];refine OK.aD (R:=fun y=>y=Sum.inl (had,left,(k:Int),(r:Int),inp,s,fr,fl,0,g0,g1,g2,g3,h0,i0,p0,h1,i1,p1,h2,i2,p2,h3,i3,p3,0,0,0,0,0,0,0,0,cells s fl,l,its,())) ?_ ?_
   ·by_cases q4:how=2
    ·rw[if_pos q4]at hin
     rw[beq_iff_eq.2 q4,cond_true,yS s fr fl 0 g0 g1 g2 g3 (bX s fl) (bR s fl) hw'.ei.kf hw'.it (k:Int) (FK hw'.ei.r9),←hin];exact OK.ret rfl
    ·rw[if_neg q4]at hin
     rw[beq_eq_false_iff_ne.2 q4,cond_false,←hin];exact OK.ret rfl
   rintro _ rfl
   simp only[Sum.elim_inl];clear nx hin;refine OK.aD (R:=fun y=>y=Sum.inl (had,left,(k:Int),(r:Int),inp,decide (1≤inp∧inp≤4),s,fr,fl,0,g0,g1,g2,g3,h0,i0,p0,h1,i1,p1,h2,i2,p2,h3,i3,p3,0,0,0,0,0,0,0,0,cells s fl,l,its,())) ?_ ?_
   ·rw[af]
    by_cases q5:inp≥1
    ·rw[if_pos q5]
     refine OK.ret ?_;rw[show decide (inp≤4)=decide (1≤inp∧inp≤4) from decide_eq_decide.2 ⟨fun h=>⟨q5,h⟩,fun h=>h.2⟩]
    ·rw[if_neg q5,decide_eq_false (show ¬(1≤inp∧inp≤4) by omega)]
     exact OK.ret rfl
   rintro _ rfl
   simp only[Sum.elim_inl];rw[ew1,af];unfold kT at ew;dsimp only at ew
   by_cases q6:1≤inp∧inp≤4
   ·rw[if_pos q6]at ew ⊢
    subst ew;have ra:=xA s fr fl 0 g0 g1 g2 g3 (fu s fl) hw'.ei hw'.it hr hk0 inp;rw[show (!(kd (l.getD r eN)==1))=false by rw[hk1];rfl]at ra
    rw[ra];simp only[Option.bind_some];unfold rj;rw[if_pos q6];exact nx2
   ·rw[if_neg q6]at ew ⊢
    by_cases q9:inp=9
    ·rw[if_pos q9]at ew
     subst ew;rw[beq_iff_eq.2 q9,cond_true];have irl:ae (r:Int) l.length=true:=ao (by omega)
     have eX:(l.getD r Run.zE).2.2.2.1=ex (l.getD r eN):=rfl;have eY:(l.getD r Run.zE).2.2.2.2.1=ey (l.getD r eN):=rfl;cases left with
     | true=>exact nx2
     | false =>
      simp only[cond_false,irl,cond_true,Int.toNat_natCast];rw[eX,eY,tf (cells s fl) (bX s fl)];simp only[Option.bind_some];dsimp only at nx2;rw[Bool.false_or]at nx2;exact nx2
    ·rw[if_neg q9]at ew
     rw[beq_eq_false_iff_ne.2 q9,cond_false,Gd.Fz s fr fl 0 (cells s fl) (bX s fl) (bR s fl) hw'.ei.BK hw'.it hw'.gQ (k:Int) inp];simp only[Option.bind_some]
     by_cases q10:4<inp∧inp≤10
     ·rw[if_pos q10]at ew
      subst ew;exact nx2
     ·rw[if_neg q10]at ew
      subst ew;rw[Fo g0 g1 g2 g3 (cells s fl) l its (k:Int) (.inl q10)];exact nx2
  ·rw[if_neg fun h=>q3 (.inr h),if_neg fun h=>q3 (.inl h)]at nx
   rw[bne_iff_ne.2 (show how≠1 from fun h=>q3 (.inl h)),cond_true,bne_iff_ne.2 (show how≠2 from fun h=>q3 (.inr h)),cond_true]
   dsimp only at nx;obtain⟨b,eb,hb⟩:=nx;rw[eb];exact OK.ret hb
 ·have:k=4:=by omega
  subst this;rw[if_neg (by omega)]
  have hh:=hhad1 (by decide)
  have e9:=hS 8;unfold ov at e9;rw[if_neg (by omega),if_neg (by omega)]at e9
  rw[e9]at hz;clear nx ih e9 hS hR hhad hhad1 hleft;rw[show 4+4=8 from rfl]at hw hh ⊢
  generalize R 8=m at *
  obtain⟨was,g0,g1,g2,g3,left,l,its⟩:=m;have hw':WO (cells s fl) l its g0 g1 g2 g3:=hw;dsimp only[pY]at hz hh ⊢;subst hh;rw[BE s fr fl g0 g1 g2 g3 hf hf1 hf3 hw' hz];exact OK.ret rfl
theorem EP:f81 1=some (1,0,0,0,0,20,20,5,1,0,0,()):=rfl
theorem Ah(hf:0≤fr∧fr≤100001)(hf1:1≤fl)(hf3:fl≤3){l:List ag}{its:List ak}(hM:WO (cells s fl) l its g0 g1 g2 g3){z}(hz:iV s fr fl 0 (j6 s fr fl [h0,h1,h2,h3] [i0,i1,i2,i3] [p0,p1,p2,p3] (cL l,g0,g1,g2,g3,false,l,its) 9)=some z) :
  f47.L3 (cL l,0,s,fr,fl,0,g0,g1,g2,g3,h0,i0,p0,h1,i1,p1,h2,i2,p2,h3,i3,p3,0,0,0,0,0,0,0,0,cells s fl,l,its,())=some z:=by
 refine OK.eq ?_;obtain⟨R,eR⟩:∃R,R=j6 s fr fl [h0,h1,h2,h3] [i0,i1,i2,i3] [p0,p1,p2,p3] (cL l,g0,g1,g2,g3,false,l,its):=⟨_,rfl⟩
 have hM0:MW (cells s fl) (cL l,g0,g1,g2,g3,false,l,its):=hM;have hR:∀n,MW (cells s fl) (R n):=fun n=>by rw[eR];exact lM s fr fl _ _ _ hM0 n
 have hS:∀n,R (n+1)=ov s fr fl [h0,h1,h2,h3] [i0,i1,i2,i3] [p0,p1,p2,p3] n (R n):=fun n=>by rw[eR];rfl
 have h0':R 0=(cL l,g0,g1,g2,g3,false,l,its):=by rw[eR];rfl
 rw[←eR]at hz;unfold f47.L3;refine OK.loop (fun n:Nat=>((R n).1,(n:Int),s,fr,fl,0,(R n).2.1,(R n).2.2.1,(R n).2.2.2.1,(R n).2.2.2.2.1,h0,i0,p0,h1,i1,p1,h2,i2,p2,h3,i3,p3,0,0,0,0,0,0,0,0,cells s fl,(R n).2.2.2.2.2.2.1,(R n).2.2.2.2.2.2.2,())) (fun n=>n≤4∧(R n).2.2.2.2.2.1=false) (fun n=>4-n) (fun rec n hj ih=>?_) 0 (by first | (rw[h0'];done) | (rw[h0'];rfl)) ⟨Nat.zero_le _,by rw[h0']⟩ (by decide)
 obtain⟨hn,hlf⟩:=hj;have hw:=hR n;dsimp only;rw[af]
 by_cases q:n<4
 ·have nx:=fun hq=>ih (n+1) hq (by omega) _ rfl
  rw[hS n]at nx;clear hz h0' ih hS hR eR;generalize R n=m at *
  obtain⟨was,g0,g1,g2,g3,left,l,its⟩:=m;have hw':WO (cells s fl) l its g0 g1 g2 g3:=hw;have hl:=hw'.ei.len;dsimp only at nx hlf ⊢;unfold ov at nx;rw[if_pos q]at nx;have ew1:IntKind.wrap .i64 ((n:Int)+1)=((n+1:Nat):Int):=by rw[wr (by omega)];omega
  rw[if_pos (by omega),ao (by omega),cond_true,Int.toNat_natCast]
  cases hp:List.getD [p0,p1,p2,p3] n false with
  | false =>
   rw[hp,if_neg (by decide)]at nx
   rw[cond_false];simp only[Option.bind_some,Sum.elim_inl,cond_false];rw[ew1];exact nx ⟨by omega,hlf⟩
  | true =>
   rw[hp,if_pos rfl]at nx;dsimp only[pY]at nx;unfold nU at nx;rw[cond_true,ga l (by omega)]
   simp only[Option.bind_some,Sum.elim_inl];rw[af,ew1]
   by_cases q1:ai l n<0
   ·rw[if_pos q1,EP]
    rw[if_neg (show ¬0≤ai l n by omega)]at nx
    simp only[Option.bind_some];have k:=xp s fl s fr fl 0 g0 g1 g2 g3 hw'.ei.kf its (1,0,(n:Int),0,0,20,20,5,1,0,0);refine OK.call k ?_;unfold fW
    by_cases q2:aZ (cells s fl) l (aG s fl)<0
    ·rw[if_pos q2]at nx ⊢
     exact nx ⟨by omega,hlf⟩
    ·rw[if_neg q2]at nx ⊢
     have k2:=uU hl (tm (n:Int) (aZ (cells s fl) l (aG s fl))) (by show 1≤(1:Int)∧(1:Int)≤4;decide)
     simp only[cond_true];refine OK.call k2 ?_;exact nx ⟨by omega,hlf⟩
   ·rw[if_neg q1]
    rw[if_pos (show 0≤ai l n by omega)]at nx
    exact nx ⟨by omega,hlf⟩
 ·have:n=4:=by omega
  subst this;rw[if_neg (by omega)]
  have rs:=zj s fr fl h0 i0 p0 h1 i1 p1 h2 i2 p2 h3 i3 p3 hf hf1 hf3 hM0 eR (had:=((R 4).1||cL (R 4).2.2.2.2.2.2.1)) rfl hlf hz
  have rso:=pe s fr fl 0 (R 4).2.1 (R 4).2.2.1 (R 4).2.2.2.1 (R 4).2.2.2.2.1 (c':=cells s fl) hw.ei (R 4).2.2.2.2.2.2.2;refine OK.aD (R:=fun y=>y=Sum.inl (((R 4).1||cL (R 4).2.2.2.2.2.2.1),s,fr,fl,0,(R 4).2.1,(R 4).2.2.1,(R 4).2.2.2.1,(R 4).2.2.2.2.1,h0,i0,p0,h1,i1,p1,h2,i2,p2,h3,i3,p3,0,0,0,0,0,0,0,0,cells s fl,(R 4).2.2.2.2.2.2.1,(R 4).2.2.2.2.2.2.2,())) ?_ ?_
  ·cases e1:(R 4).1 with
   | true=>exact OK.ret rfl
   | false =>
    rw[cond_false,rso];exact OK.ret rfl
  ·rintro _ rfl
   simp only[Sum.elim_inl];rw[rs];exact OK.ret rfl
theorem Cg(sta:Int)(hf:0≤fr∧fr≤100000){c:List Int}{l:List ag}{its:List ak}(h:WW s fr fl sta g0 g1 g2 g3 c l its) :
  f47 s fr fl sta c l its g0 g1 g2 g3 h0 i0 p0 h1 i1 p1 h2 i2 p2 h3 i3 p3=f20 s fr fl sta c l its g0 g1 g2 g3 h0 i0 p0 h1 i1 p1 h2 i2 p2 h3 i3 p3:=by
 obtain⟨z,ez,ef,_⟩:=xv s fr fl sta g0 g1 g2 g3 h0 i0 p0 h1 i1 p1 h2 i2 p2 h3 i3 p3 hf h;rw[ez];obtain⟨rfl,hw,hf1,hf3,hs,_⟩:=h;have hcl:=bR s fl;have hl:=hw.ei.len;have hil:=hw.it.len;unfold yy at ef;unfold f47;rw[fj s fr fl sta (cells s fl) g0 g1 g2 g3 (by omega) (by omega) (by omega)]
 simp only[Option.bind_some];rw[wr (x:=fr+1) (by omega)]
 by_cases s0:sta=0
 ·subst s0
  rw[if_pos rfl]at ef;rw[show (((0:Int) !=0)=false) from rfl,cond_false,pe s (fr+1) fl 0 g0 g1 g2 g3 hw.ei its]
  simp only[Option.bind_some];exact Ah s (fr+1) fl g0 g1 g2 g3 h0 i0 p0 h1 i1 p1 h2 i2 p2 h3 i3 p3 (by omega) hf1 hf3 hw ef
 ·rw[if_neg s0]at ef
  rw[bne_iff_ne.2 s0,cond_true];exact ef
end
end Go.Proofs.YthdgahpomhnidaaGreat.Tp
namespace Go.Proofs.YthdgahpomhnidaaGreat.Tp
open Go Mx Pc Run Field Gen GenL Fl Wd Ft Ln Nav Mn
set_option maxHeartbeats 4000000
theorem yH(a n:Int)(h:0<n)(hn:n≤1000000000000):f46 a n=some (within a n,()):=by
 have:=pa a n h;unfold f46 within;simp only[Option.bind_some,af];rw[if_neg (by omega)]
 split
 ·rw[wr (by omega)];rfl
 ·rfl
def Ga(a:Int):Int×Int×Bool:=(within a 3,within (IntKind.wrap .i64 (Int.tdiv a 3)) 11,within (IntKind.wrap .i64 (Int.tdiv a 33)) 3==0)
def aO(row:List Int)(k j:Nat):Int×Int×Bool:=if j<k∧j<row.length then Ga (row.getD j 0) else (0,0,false)
theorem sc(row:List Int)(j:Nat):aO row 0 j=(0,0,false):=if_neg fun h=>absurd h.1 (Nat.not_lt_zero _)
theorem sx{row:List Int}{k:Nat}(h:k<row.length)(j:Nat):aO row (k+1) j=if k=j then Ga (row.getD k 0) else aO row k j:=by
 unfold aO
 by_cases e:k=j
 ·subst e;rw[if_pos ⟨by omega,h⟩,if_pos rfl]
 ·rw[if_neg e]
  by_cases q:j<k∧j<row.length
  ·rw[if_pos q,if_pos ⟨by omega,q.2⟩]
  ·rw[if_neg q,if_neg fun z=>q ⟨by omega,z.2⟩]
theorem fL{row:List Int}{k:Nat}(h:row.length≤k∨4≤k){j:Nat}(hj:j<4):aO row k j=aO row 4 j:=by
 unfold aO
 by_cases q:j<k∧j<row.length
 ·rw[if_pos q,if_pos ⟨hj,q.2⟩]
 ·rw[if_neg q,if_neg fun z=>q ⟨by omega,z.2⟩]
abbrev WR:=Int×Int×Int×Int×List Int×List ag×List ak×Int×Int×Int×Int
def tu(z:WT):WR:=(z.1,z.2.1,z.2.2.1,z.2.2.2.1,z.2.2.2.2.2.2.2.2.1,z.2.2.2.2.2.2.2.2.2.1,z.2.2.2.2.2.2.2.2.2.2.1,z.2.2.2.2.1,z.2.2.2.2.2.1,z.2.2.2.2.2.2.1,z.2.2.2.2.2.2.2.1)
noncomputable def oo(z:WT)(A:Nat→Int×Int×Bool):Option WT:=f20 z.1 z.2.1 z.2.2.1 z.2.2.2.1 z.2.2.2.2.2.2.2.2.1 z.2.2.2.2.2.2.2.2.2.1 z.2.2.2.2.2.2.2.2.2.2.1 z.2.2.2.2.1 z.2.2.2.2.2.1 z.2.2.2.2.2.2.1 z.2.2.2.2.2.2.2.1 (A 0).1 (A 0).2.1 (A 0).2.2 (A 1).1 (A 1).2.1 (A 1).2.2 (A 2).1 (A 2).2.1 (A 2).2.2 (A 3).1 (A 3).2.1 (A 3).2.2
noncomputable def wk(s:Int)(l:List (List Int)):Nat→WT
 | 0=>(f19 s).getD (0,0,0,0,0,0,0,0,[],[],[],())
 | k+1=>(oo (wk s l k) (aO (l.getD k []) 4)).getD (0,0,0,0,0,0,0,0,[],[],[],())
theorem uT(s:Int)(l:List (List Int)):f19 s=some (wk s l 0)∧lF s 0 (wk s l 0):=by
 obtain⟨z,e,h⟩:=zG s;have:wk s l 0=z:=by
  show (f19 s).getD _=z;rw[e];rfl
 rw[this];exact⟨e,h.1⟩
theorem gZ(s:Int)(l:List (List Int)):∀k:Nat,k≤1000→lF s k (wk s l k)∧oo (wk s l k) (aO (l.getD k []) 4)=some (wk s l (k+1)):=by
 have one:∀k:Nat,k≤1000→lF s k (wk s l k)→oo (wk s l k) (aO (l.getD k []) 4)=some (wk s l (k+1))∧lF s (k+1:Nat) (wk s l (k+1)):=fun k hk h=>by
  obtain⟨z,e,hz⟩:=wK (aO (l.getD k []) 4 0).1 (aO (l.getD k []) 4 0).2.1 (aO (l.getD k []) 4 0).2.2 (aO (l.getD k []) 4 1).1 (aO (l.getD k []) 4 1).2.1 (aO (l.getD k []) 4 1).2.2 (aO (l.getD k []) 4 2).1 (aO (l.getD k []) 4 2).2.1 (aO (l.getD k []) 4 2).2.2 (aO (l.getD k []) 4 3).1 (aO (l.getD k []) 4 3).2.1 (aO (l.getD k []) 4 3).2.2 (s:=s) (fr:=k) (by omega) h
  have e:oo (wk s l k) (aO (l.getD k []) 4)=some z:=e;have:wk s l (k+1)=z:=by
   show (oo (wk s l k) (aO (l.getD k []) 4)).getD _=z;rw[e];rfl
  rw[this];exact⟨e,hz⟩
 intro k
 induction k with
 | zero=>exact fun hk=>⟨(uT s l).2,(one 0 hk (uT s l).2).1⟩
 | succ k ih=>exact fun hk=>⟨(one k (by omega) (ih (by omega)).1).2,(one (k+1) hk (one k (by omega) (ih (by omega)).1).2).1⟩
theorem Bn{s:Int}{k:Nat}(hk:k≤1000){z:WT}(h:lF s k z)(A:Nat→Int×Int×Bool) :
  f47 z.1 z.2.1 z.2.2.1 z.2.2.2.1 z.2.2.2.2.2.2.2.2.1 z.2.2.2.2.2.2.2.2.2.1 z.2.2.2.2.2.2.2.2.2.2.1 z.2.2.2.2.1 z.2.2.2.2.2.1 z.2.2.2.2.2.2.1 z.2.2.2.2.2.2.2.1 (A 0).1 (A 0).2.1 (A 0).2.2 (A 1).1 (A 1).2.1 (A 1).2.2 (A 2).1 (A 2).2.1 (A 2).2.2 (A 3).1 (A 3).2.1 (A 3).2.2=oo z A:=by
 obtain⟨s',fr',fl,sta,g0,g1,g2,g3,c,l,its,u⟩:=z;obtain⟨e1,e2,hw⟩:=h;dsimp only at e1 e2 hw;subst e1 e2;exact Cg s' k fl g0 g1 g2 g3 _ _ _ _ _ _ _ _ _ _ _ _ sta (by omega) hw
section
variable (l:List (List Int)) (i:Nat) (s fr fl sta g0 g1 g2 g3:Int) (c:List Int) (es:List ag) (its:List ak) (out:List WR)
theorem yg(hi:i<l.length):f17.L1 (l,(i:Int),0,s,fr,fl,sta,c,es,its,g0,g1,g2,g3,out,0,0,false,0,0,false,0,0,false,0,0,false,()) =
  some (.inl (l,(i:Int),s,fr,fl,sta,c,es,its,g0,g1,g2,g3,out,(aO (l.getD i []) 4 0).1,(aO (l.getD i []) 4 0).2.1,(aO (l.getD i []) 4 0).2.2,(aO (l.getD i []) 4 1).1,(aO (l.getD i []) 4 1).2.1,(aO (l.getD i []) 4 1).2.2,(aO (l.getD i []) 4 2).1,(aO (l.getD i []) 4 2).2.1,(aO (l.getD i []) 4 2).2.2,(aO (l.getD i []) 4 3).1,(aO (l.getD i []) 4 3).2.1,(aO (l.getD i []) 4 3).2.2,())):=by
 refine OK.eq ?_;unfold f17.L1;refine OK.loop (fun k:Nat=>(l,(i:Int),(k:Int),s,fr,fl,sta,c,es,its,g0,g1,g2,g3,out,(aO (l.getD i []) k 0).1,(aO (l.getD i []) k 0).2.1,(aO (l.getD i []) k 0).2.2,(aO (l.getD i []) k 1).1,(aO (l.getD i []) k 1).2.1,(aO (l.getD i []) k 1).2.2,(aO (l.getD i []) k 2).1,(aO (l.getD i []) k 2).2.1,(aO (l.getD i []) k 2).2.2,(aO (l.getD i []) k 3).1,(aO (l.getD i []) k 3).2.1,(aO (l.getD i []) k 3).2.2,())) (fun k=>k≤4) (fun k=>4-k) (fun rec k hk ih=>?_) 0 (by simp only[sc];rfl) (Nat.zero_le _) (by decide)
 have il:ae (i:Int) l.length=true:=ao (by omega)
 dsimp only;rw[af]
 by_cases q:k<4
 ·have nx:=ih (k+1) (by omega) (by omega) _ rfl
  rw[if_pos (by omega)]
  simp only[il,cond_true,Int.toNat_natCast];rw[af]
  by_cases p:k<(l.getD i []).length
  ·have ir:ae (k:Int) (l.getD i []).length=true:=ao (by omega)
   have i4:ae (k:Int) 4=true:=ao (by omega)
   rw[if_pos (by omega)]
   simp only[ir,i4,cond_true];rw[yH _ 3 (by decide) (by decide)]
   simp only[Option.bind_some];rw[yH _ 11 (by decide) (by decide)]
   simp only[Option.bind_some];rw[yH _ 3 (by decide) (by decide)]
   simp only[Option.bind_some];rw[wr (x:=(k:Int)+1) (by omega)]
   simp only[sx p]at nx;have k4:k=0∨k=1∨k=2∨k=3:=by omega
   rcases k4 with rfl | rfl | rfl | rfl<;>exact nx
  ·rw[if_neg (by omega)]
   refine OK.ret ?_;rw[fL (k:=k) (.inl (by omega)) (show 0<4 by decide),fL (k:=k) (.inl (by omega)) (show 1<4 by decide),fL (k:=k) (.inl (by omega)) (show 2<4 by decide),fL (k:=k) (.inl (by omega)) (show 3<4 by decide)]
 ·have:k=4:=by omega
  subst this;rw[if_neg (by omega)]
  exact OK.ret rfl
end
theorem CD(s:Int)(l:List (List Int))(n:Nat):(List.range (n+1)).map (fun k=>tu (wk s l k))=(List.range n).map (fun k=>tu (wk s l k))++[tu (wk s l n)]:=by
 rw[List.range_succ,List.map_append];rfl
theorem BQ(s:Int)(l:List (List Int)):f17 s l=some ((List.range (min l.length 30+1)).map (fun k=>tu (wk s l k)),()):=by
 refine OK.eq ?_;obtain⟨n1,n2⟩:=uT s l;unfold f17;rw[DZ,n1];simp only[Option.bind_some];refine OK.aD (R:=fun y=>y=Sum.inl ((List.range (min l.length 30+1)).map (fun k=>tu (wk s l k)),())) ?_ ?_
 ·unfold f17.L2
  refine OK.loop (fun n:Nat=>(l,(n:Int),(tu (wk s l n)).1,(tu (wk s l n)).2.1,(tu (wk s l n)).2.2.1,(tu (wk s l n)).2.2.2.1,(tu (wk s l n)).2.2.2.2.1,(tu (wk s l n)).2.2.2.2.2.1,(tu (wk s l n)).2.2.2.2.2.2.1,(tu (wk s l n)).2.2.2.2.2.2.2.1,(tu (wk s l n)).2.2.2.2.2.2.2.2.1,(tu (wk s l n)).2.2.2.2.2.2.2.2.2.1,(tu (wk s l n)).2.2.2.2.2.2.2.2.2.2,(List.range (n+1)).map (fun k=>tu (wk s l k)),())) (fun n=>n≤min l.length 30) (fun n=>30-n) (fun rec n hn ih=>?_) 0 rfl (Nat.zero_le _) (by decide)
  obtain⟨w1,w2⟩:=gZ s l n (by omega)
  dsimp only;rw[af,af]
  by_cases q:n<min l.length 30
  ·have nx:=ih (n+1) (by omega) (by omega) _ rfl
   rw[CD s l (n+1)]at nx;rw[if_pos (by omega),if_pos (by omega),yg l n _ _ _ _ _ _ _ _ _ _ _ _ (by omega)]
   simp only[Option.bind_some,Sum.elim_inl];have rs:=Bn (by omega) w1 (aO (l.getD n []) 4)
   rw[w2]at rs;refine OK.call rs ?_;rw[decide_eq_true (by rw[List.length_map,List.length_range];simp[aB];omega),cond_true,wr (by omega)]
   exact nx
  ·have e:OK (some (Sum.inl ((List.range (n+1)).map (fun k=>tu (wk s l k)),())):Option ((List WR×Unit)⊕(List WR×Unit))) fun y=>y=Sum.inl ((List.range (min l.length 30+1)).map (fun k=>tu (wk s l k)),()):=by
    rw[show n=min l.length 30 by omega]
    exact OK.ret rfl
   by_cases p:n<l.length
   ·rw[if_pos (by omega),if_neg (by omega)]
    exact e
   ·rw[if_neg (by omega)]
    exact e
 ·rintro _ rfl
  exact OK.ret rfl
end Go.Proofs.YthdgahpomhnidaaGreat.Tp
namespace Go.Proofs.YthdgahpomhnidaaGreat.Tp
open Go Mx Pc Run Field Gen GenL Fl Wd Ft Ln Nav Mn
set_option maxHeartbeats 2000000
theorem xm(b:ByteArray):∀(n i:Nat) (r:List UInt8),b.size-i=n→ByteArray.toList.loop b i r=r.reverse++b.data.toList.drop i
 | 0,i,r,h=>by
  have hs:b.data.toList.length=b.size:=by rw[Array.length_toList];rfl
  unfold ByteArray.toList.loop;rw[if_neg (by omega),List.drop_of_length_le (by omega),List.append_nil]
 | n+1,i,r,h=>by
  have hs:i<b.data.toList.length:=by simp only[Array.length_toList];show i<b.size;omega
  unfold ByteArray.toList.loop;rw[if_pos (by omega),xm b n (i+1) _ (by omega),List.reverse_cons,List.append_assoc,List.drop_eq_getElem_cons hs]
  have hs':i<b.data.size:=by simpa using hs
  have hg:b.get! i=b.data.toList[i]:=by
   show b.data[i]! = _;rw[getElem!_pos b.data i hs',Array.getElem_toList]
  rw[hg];rfl
theorem HB(b:ByteArray):b.toList=b.data.toList:=by unfold ByteArray.toList;rw[xm b _ 0 [] rfl];simp
theorem bytes_inj{a b:List Int}(ha:∀x∈a,0≤x∧x<256)(hb:∀x∈b,0≤x∧x<256)(h:(bytesOf a).toList=(bytesOf b).toList):a=b:=by
 rw[HB,HB]at h;have h:a.map (fun n=>UInt8.ofNat n.toNat)=b.map fun n=>UInt8.ofNat n.toNat:=h
 have g:∀(a:List Int),(∀x∈a,0≤x∧x<256)→(a.map fun n=>UInt8.ofNat n.toNat).map (fun u=>(u.toNat:Int))=a:=fun a ha=>by
  rw[List.map_map]
  conv=>rhs;rw[←List.map_id a]
  refine List.map_congr_left fun x hx=>?_
  have:=ha x hx;simp only[Function.comp,id,UInt8.toNat_ofNat'];omega
 have:=congrArg (List.map fun u:UInt8=>(u.toNat:Int)) h
 rwa [g a ha,g b hb]at this
def iZ(a b:Int×Int×Int×Int):Bool:=a.1==b.1&&(a.2.1==b.2.1&&(a.2.2.1==b.2.2.1&&(a.2.2.2==b.2.2.2&&Bool.true)))
def iW(a b:ag):Bool:=a.1==b.1&&(a.2.1==b.2.1&&(a.2.2.1==b.2.2.1&&(a.2.2.2.1==b.2.2.2.1&&(a.2.2.2.2.1==b.2.2.2.2.1&&(a.2.2.2.2.2.1==b.2.2.2.2.2.1&&(a.2.2.2.2.2.2.1==b.2.2.2.2.2.2.1&&(a.2.2.2.2.2.2.2.1==b.2.2.2.2.2.2.2.1&&(a.2.2.2.2.2.2.2.2.1==b.2.2.2.2.2.2.2.2.1&&(a.2.2.2.2.2.2.2.2.2.1==b.2.2.2.2.2.2.2.2.2.1&&(a.2.2.2.2.2.2.2.2.2.2==b.2.2.2.2.2.2.2.2.2.2&&Bool.true))))))))))
theorem Bz{a b:Int×Int×Int×Int}(h:iZ a b=true):a=b:=by
 simp only[iZ,Bool.and_eq_true,beq_iff_eq,and_true]at h;obtain⟨a1,a2,a3,a4⟩:=a;obtain⟨b1,b2,b3,b4⟩:=b;obtain⟨rfl,rfl,rfl,rfl⟩:=h;rfl
theorem BV{a b:ag}(h:iW a b=true):a=b:=by
 simp only[iW,Bool.and_eq_true,beq_iff_eq,and_true]at h;obtain⟨a1,a2,a3,a4,a5,a6,a7,a8,a9,a10,a11⟩:=a;obtain⟨b1,b2,b3,b4,b5,b6,b7,b8,b9,b10,b11⟩:=b;obtain⟨rfl,rfl,rfl,rfl,rfl,rfl,rfl,rfl,rfl,rfl,rfl⟩:=h;rfl
theorem mix{α:Type}(A B:List α)(d:α)(k:Nat)(hA:A.length=B.length)(hk:k<A.length):(A.take k++B.drop k).set k (A.getD k d)=A.take (k+1)++B.drop (k+1):=by
 refine List.ext_getElem? fun i=>?_
 simp only[List.getElem?_set,List.getElem?_append,List.getElem?_take,List.getElem?_drop,List.length_append,List.length_take,List.length_drop];rw[Nat.min_eq_left (by omega),Nat.min_eq_left (by omega)]
 by_cases h1:k=i
 ·subst h1
  simp[List.getD_eq_getElem?_getD,hk,show k<k+(B.length-k) by omega]
 ·rw[if_neg h1]
  by_cases h2:i<k
  ·simp[h2,show i<k+1 by omega]
  ·simp[h2,show ¬i<k+1 by omega]
   congr 1
   omega
theorem iF{α:Type}(A B:List α)(d:α)(k:Nat)(hA:A.length=B.length)(hk:k<A.length)(h:A.getD k d=B.getD k d):A.take k++B.drop k=A.take (k+1)++B.drop (k+1):=by
 rw[←mix A B d k hA hk];refine List.ext_getElem? fun i=>?_
 simp only[List.getElem?_set,List.getElem?_append,List.getElem?_take,List.getElem?_drop,List.length_append,List.length_take,List.length_drop];rw[Nat.min_eq_left (by omega)]
 by_cases h1:k=i
 ·subst h1
  rw[h];simp[List.getD_eq_getElem?_getD,show k<B.length by omega,show k<k+(B.length-k) by omega]
 ·rw[if_neg h1]
def dE(n:Nat)(e:ag):Dyn:=.mk 174 [.int .i64 n,.int .i64 e.1,.int .i64 e.2.1,.int .i64 e.2.2.1,.int .i64 e.2.2.2.1,.int .i64 e.2.2.2.2.1,.int .i64 e.2.2.2.2.2.1,.int .i64 e.2.2.2.2.2.2.1,.int .i64 e.2.2.2.2.2.2.2.1,.int .i64 e.2.2.2.2.2.2.2.2.1,.int .i64 e.2.2.2.2.2.2.2.2.2.1,.int .i64 e.2.2.2.2.2.2.2.2.2.2]
def dI(n:Nat)(e:ak):Dyn:=.mk 176 [.int .i64 n,.int .i64 e.1,.int .i64 e.2.1,.int .i64 e.2.2.1,.int .i64 e.2.2.2]
def dH(a0 a1 a2 a3 g0 g1 g2 g3:Int):Dyn:=.mk 169 [.int .i64 a0,.int .i64 a1,.int .i64 a2,.int .i64 a3,.row [],.row [],.row [],.int .i64 g0,.int .i64 g1,.int .i64 g2,.int .i64 g3]
def dC(c:List Int):Dyn:=.mk 172 [.row c]
def mJ(A B:List ag):Nat→List Dyn
 | 0=>[]
 | k+1=>mJ A B k++if iW (A.getD k eN) (B.getD k eN)=true then [] else [dE k (A.getD k eN)]
def mM(A B:List ak):Nat→List Dyn
 | 0=>[]
 | k+1=>mM A B k++if iZ (A.getD k (0,0,0,0)) (B.getD k (0,0,0,0))=true then [] else [dI k (A.getD k (0,0,0,0))]
section
variable (s fr fl sta g0 g1 g2 g3:Int) (c:List Int) (l:List ag) (its:List ak)
theorem Fh(n:Nat)(e:ag)(h:n<l.length):f68 (dE n e) s fr fl sta g0 g1 g2 g3 c l its=some (s,fr,fl,sta,g0,g1,g2,g3,l.set n e,its,c,()):=by
 have h1:decide ((n:Int)<(l.length:Int))=true:=decide_eq_true (by omega)
 have h2:ae (n:Int) l.length=true:=ao (by omega)
 show (bif decide ((n:Int)<(l.length:Int)) then bif ae (n:Int) l.length then some (s,fr,fl,sta,g0,g1,g2,g3,l.set n e,its,c,()) else none else some (s,fr,fl,sta,g0,g1,g2,g3,l,its,c,()))=_
 rw[h1,h2];rfl
theorem GD(n:Nat)(e:ak)(h:n<its.length):f68 (dI n e) s fr fl sta g0 g1 g2 g3 c l its=some (s,fr,fl,sta,g0,g1,g2,g3,l,its.set n e,c,()):=by
 have h1:decide ((n:Int)<(its.length:Int))=true:=decide_eq_true (by omega)
 have h2:ae (n:Int) its.length=true:=ao (by omega)
 show (bif decide ((n:Int)<(its.length:Int)) then bif ae (n:Int) its.length then some (s,fr,fl,sta,g0,g1,g2,g3,l,its.set n e,c,()) else none else some (s,fr,fl,sta,g0,g1,g2,g3,l,its,c,()))=_
 rw[h1,h2];rfl
theorem zB(l:List Int)(h:l.length≤100000):f127 l=some (l,()):=by
 unfold f127 da;rw[decide_eq_true (by simp[aB];omega)]
 rfl
theorem E4(c':List Int)(h:c'.length≤100000):f68 (dC c') s fr fl sta g0 g1 g2 g3 c l its=some (s,fr,fl,sta,g0,g1,g2,g3,l,its,c',()):=by
 show (Option.bind (f127 c') fun y0=>some (s,fr,fl,sta,g0,g1,g2,g3,l,its,y0.1,()))=_
 rw[zB c' h];rfl
end
end Go.Proofs.YthdgahpomhnidaaGreat.Tp
namespace Go.Proofs.YthdgahpomhnidaaGreat.Tp
open Go Mx Pc Run Field Gen GenL Fl Wd Ft Ln Nav Mn
set_option maxHeartbeats 2000000
def bk(d:Dyn)(z:WT):Option WT:=Option.bind (f68 d z.1 z.2.1 z.2.2.1 z.2.2.2.1 z.2.2.2.2.1 z.2.2.2.2.2.1 z.2.2.2.2.2.2.1 z.2.2.2.2.2.2.2.1 z.2.2.2.2.2.2.2.2.1 z.2.2.2.2.2.2.2.2.2.1 z.2.2.2.2.2.2.2.2.2.2.1) fun y=>some (y.1,y.2.1,y.2.2.1,y.2.2.2.1,y.2.2.2.2.1,y.2.2.2.2.2.1,y.2.2.2.2.2.2.1,y.2.2.2.2.2.2.2.1,y.2.2.2.2.2.2.2.2.2.2.1,y.2.2.2.2.2.2.2.2.1,y.2.2.2.2.2.2.2.2.2.1,())
def app:List Dyn→WT→Option WT
 | [],z=>some z
 | d::D,z=>Option.bind (bk d z) (app D)
theorem gk:∀(D E:List Dyn) (z:WT),app (D++E) z=Option.bind (app D z) (app E)
 | [],E,z=>rfl
 | d::D,E,z=>by
  show Option.bind (bk d z) (app (D++E))=Option.bind (Option.bind (bk d z) (app D)) (app E);cases bk d z with
  | none=>rfl
  | some y=>exact gk D E y
theorem nV(d:Dyn)(z:WT):app [d] z=bk d z:=by
 show Option.bind (bk d z) (app [])=_;cases bk d z<;>rfl
section
variable (s fr fl sta g0 g1 g2 g3:Int) (c:List Int) (l:List ag) (its:List ak)
theorem zR(A B:List ag)(hA:A.length=32)(hB:B.length=32):∀k,k≤32→app (mJ A B k) (s,fr,fl,sta,g0,g1,g2,g3,c,B,its,())=some (s,fr,fl,sta,g0,g1,g2,g3,c,A.take k++B.drop k,its,())
 | 0,_=>rfl
 | k+1,hk=>by
  show app (mJ A B k++if iW (A.getD k eN) (B.getD k eN)=true then [] else [dE k (A.getD k eN)]) _=_
  rw[gk,zR A B hA hB k (by omega)]
  simp only[Option.bind_some]
  by_cases h:iW (A.getD k eN) (B.getD k eN)=true
  ·rw[if_pos h,←iF A B eN k (by omega) (by omega) (BV h)]
   rfl
  ·rw[if_neg h,nV]
   unfold bk;rw[Fh _ _ _ _ _ _ _ _ _ _ _ k _ (by simp;omega),mix A B eN k (by omega) (by omega)]
   rfl
theorem AR(A B:List ak)(hA:A.length=40)(hB:B.length=40):∀k,k≤40→app (mM A B k) (s,fr,fl,sta,g0,g1,g2,g3,c,l,B,())=some (s,fr,fl,sta,g0,g1,g2,g3,c,l,A.take k++B.drop k,())
 | 0,_=>rfl
 | k+1,hk=>by
  show app (mM A B k++if iZ (A.getD k (0,0,0,0)) (B.getD k (0,0,0,0))=true then [] else [dI k (A.getD k (0,0,0,0))]) _=_
  rw[gk,AR A B hA hB k (by omega)]
  simp only[Option.bind_some]
  by_cases h:iZ (A.getD k (0,0,0,0)) (B.getD k (0,0,0,0))=true
  ·rw[if_pos h,←iF A B (0,0,0,0) k (by omega) (by omega) (Bz h)]
   rfl
  ·rw[if_neg h,nV]
   unfold bk;rw[GD _ _ _ _ _ _ _ _ _ _ _ k _ (by simp;omega),mix A B (0,0,0,0) k (by omega) (by omega)]
   rfl
end
theorem ry(A B:List ag):∀k,(mJ A B k).length≤k
 | 0=>Nat.le_refl _
 | k+1=>by
  have:=ry A B k;show (mJ A B k++if iW (A.getD k eN) (B.getD k eN)=true then [] else [dE k (A.getD k eN)]).length≤_
  rw[List.length_append];split<;>simp<;>omega
theorem rZ(A B:List ak):∀k,(mM A B k).length≤k
 | 0=>Nat.le_refl _
 | k+1=>by
  have:=rZ A B k;show (mM A B k++if iZ (A.getD k (0,0,0,0)) (B.getD k (0,0,0,0))=true then [] else [dI k (A.getD k (0,0,0,0))]).length≤_
  rw[List.length_append];split<;>simp<;>omega
def mL(b:Bool)(d:Dyn):List Dyn:=bif !b then [d] else []
section
variable (a0 a1 a2 a3:Int) (c:List Int) (l:List ag) (its:List ak) (a7 a8 a9 a10 b0 b1 b2 b3:Int) (c':List Int) (l':List ag) (its':List ak) (b7 b8 b9 b10:Int)
def jf:Bool:=a0==b0&&(a1==b1&&(a2==b2&&(a3==b3&&(a7==b7&&(a8==b8&&(a9==b9&&(a10==b10&&Bool.true)))))))
def kP:Bool:=ByteArray.toList (bytesOf c)==ByteArray.toList (bytesOf c')
def zc:List Dyn:=mL (jf a0 a1 a2 a3 a7 a8 a9 a10 b0 b1 b2 b3 b7 b8 b9 b10) (dH a0 a1 a2 a3 a7 a8 a9 a10)++mL (kP c c') (dC c)++mJ l l' 32++mM its its' 40
theorem Bx:f125 a0 a1 a2 a3 c l its a7 a8 a9 a10 b0 b1 b2 b3 c' l' its' b7 b8 b9 b10=some (jf a0 a1 a2 a3 a7 a8 a9 a10 b0 b1 b2 b3 b7 b8 b9 b10,()):=by
 unfold f125 jf;cases a0==b0<;>cases a1==b1<;>cases a2==b2<;>cases a3==b3<;>rfl
theorem rN{n:Nat}(h:n≤1000):decide (n+1≤aB 16)=true:=decide_eq_true (by simp[aB];omega)
theorem Bq(hi:its.length=40)(hi':its'.length=40)(D:List Dyn)(hD:D.length≤100) :
  f66.L1 (40,0,a0,a1,a2,a3,c,l,its,a7,a8,a9,a10,b0,b1,b2,b3,c',l',its',b7,b8,b9,b10,D,())=some (D++mM its its' 40,()):=by
 refine OK.eq ?_;unfold f66.L1;refine OK.loop (fun k:Nat=>(40,(k:Int),a0,a1,a2,a3,c,l,its,a7,a8,a9,a10,b0,b1,b2,b3,c',l',its',b7,b8,b9,b10,D++mM its its' k,())) (fun k=>k≤40) (fun k=>40-k) (fun rec k hk ih=>?_) 0 (by rw[show mM its its' 0=[] from rfl,List.append_nil];rfl) (Nat.zero_le _) (by decide)
 have hl:=rZ its its' k;dsimp only;rw[af]
 by_cases q:k<40
 ·have nx:=ih (k+1) (by omega) (by omega) _ rfl
  have i1:ae (k:Int) its.length=true:=ao (by omega)
  have i2:ae (k:Int) its'.length=true:=ao (by omega)
  rw[if_pos (by omega),i1,i2,cond_true,cond_true,cond_true,Int.toNat_natCast,wr (x:=(k:Int)+1) (by omega)]
  rw[show mM its its' (k+1)=mM its its' k++if iZ (its.getD k (0,0,0,0)) (its'.getD k (0,0,0,0))=true then [] else [dI k (its.getD k (0,0,0,0))] from rfl]at nx
  cases h:iZ (its.getD k (0,0,0,0)) (its'.getD k (0,0,0,0)) with
  | true =>
   rw[h,if_pos rfl,List.append_nil]at nx;show OK (bif !iZ (its.getD k (0,0,0,0)) (its'.getD k (0,0,0,0)) then _ else _) _
   rw[h];exact nx
  | false =>
   rw[h,if_neg (by decide),←List.append_assoc]at nx
   show OK (bif !iZ (its.getD k (0,0,0,0)) (its'.getD k (0,0,0,0)) then _ else _) _
   rw[h,rN (by rw[List.length_append];omega)]
   exact nx
 ·have:k=40:=by omega
  subst this;rw[if_neg (by omega)]
  exact OK.ret rfl
theorem EN(he:l.length=32)(he':l'.length=32)(hi:its.length=40)(hi':its'.length=40)(D:List Dyn)(hD:D.length≤50) :
  f66.L2 (32,0,a0,a1,a2,a3,c,l,its,a7,a8,a9,a10,b0,b1,b2,b3,c',l',its',b7,b8,b9,b10,D,())=some (D++mJ l l' 32++mM its its' 40,()):=by
 refine OK.eq ?_;unfold f66.L2;refine OK.loop (fun k:Nat=>(32,(k:Int),a0,a1,a2,a3,c,l,its,a7,a8,a9,a10,b0,b1,b2,b3,c',l',its',b7,b8,b9,b10,D++mJ l l' k,())) (fun k=>k≤32) (fun k=>32-k) (fun rec k hk ih=>?_) 0 (by rw[show mJ l l' 0=[] from rfl,List.append_nil];rfl) (Nat.zero_le _) (by decide)
 have hl:=ry l l' k;dsimp only;rw[af]
 by_cases q:k<32
 ·have nx:=ih (k+1) (by omega) (by omega) _ rfl
  have i1:ae (k:Int) l.length=true:=ao (by omega)
  have i2:ae (k:Int) l'.length=true:=ao (by omega)
  rw[if_pos (by omega),i1,i2,cond_true,cond_true,cond_true,Int.toNat_natCast,wr (x:=(k:Int)+1) (by omega)]
  rw[show mJ l l' (k+1)=mJ l l' k++if iW (l.getD k eN) (l'.getD k eN)=true then [] else [dE k (l.getD k eN)] from rfl]at nx
  cases h:iW (l.getD k eN) (l'.getD k eN) with
  | true =>
   rw[h,if_pos rfl,List.append_nil]at nx;show OK (bif !iW (l.getD k eN) (l'.getD k eN) then _ else _) _
   rw[h];exact nx
  | false =>
   rw[h,if_neg (by decide),←List.append_assoc]at nx
   show OK (bif !iW (l.getD k eN) (l'.getD k eN) then _ else _) _
   rw[h,rN (by rw[List.length_append];omega)]
   exact nx
 ·have:k=32:=by omega
  subst this;rw[if_neg (by omega),hi,hi',show aX ((40:Nat):Int) ((40:Nat):Int)=40 from rfl,Bq _ _ _ _ _ _ _ _ _ _ _ _ _ _ _ _ _ _ _ _ _ _ hi hi' (D++mJ l l' 32) (by rw[List.length_append];omega)]
  exact OK.ret rfl
theorem yc(hc:c.length≤100000)(he:l.length=32)(he':l'.length=32)(hi:its.length=40)(hi':its'.length=40) :
  f66 a0 a1 a2 a3 c l its a7 a8 a9 a10 b0 b1 b2 b3 c' l' its' b7 b8 b9 b10=some (zc a0 a1 a2 a3 c l its a7 a8 a9 a10 b0 b1 b2 b3 c' l' its' b7 b8 b9 b10,()):=by
 refine OK.eq ?_;unfold f66;obtain⟨D,hD⟩:∃D,D=mL (jf a0 a1 a2 a3 a7 a8 a9 a10 b0 b1 b2 b3 b7 b8 b9 b10) (dH a0 a1 a2 a3 a7 a8 a9 a10):=⟨_,rfl⟩
 obtain⟨E,hE⟩:∃E,E=mL (kP c c') (dC c):=⟨_,rfl⟩
 have lD:D.length≤1:=by rw[hD];unfold mL;cases jf a0 a1 a2 a3 a7 a8 a9 a10 b0 b1 b2 b3 b7 b8 b9 b10<;>simp
 have lE:E.length≤1:=by rw[hE];unfold mL;cases kP c c'<;>simp
 refine OK.aD (R:=fun y=>y=Sum.inl (a0,a1,a2,a3,c,l,its,a7,a8,a9,a10,b0,b1,b2,b3,c',l',its',b7,b8,b9,b10,D,())) ?_ ?_
 ·rw[Bx]
  simp only[Option.bind_some];rw[hD];cases jf a0 a1 a2 a3 a7 a8 a9 a10 b0 b1 b2 b3 b7 b8 b9 b10<;>exact OK.ret rfl
 ·rintro _ rfl
  simp only[Sum.elim_inl];refine OK.aD (R:=fun y=>y=Sum.inl (a0,a1,a2,a3,c,l,its,a7,a8,a9,a10,b0,b1,b2,b3,c',l',its',b7,b8,b9,b10,D++E,())) ?_ ?_
  ·refine OK.call (show f126 c c'=some (kP c c',()) from rfl) ?_
   rw[hE];cases kP c c' with
   | true =>
    simp only[Bool.not_true,cond_false,mL,List.append_nil];exact OK.ret rfl
   | false =>
    simp only[Bool.not_false,cond_true,mL];refine OK.call (zB c hc) ?_;rw[rN (by omega),cond_true]
    exact OK.ret rfl
  ·rintro _ rfl
   simp only[Sum.elim_inl];rw[he,he',show aX ((32:Nat):Int) ((32:Nat):Int)=32 from rfl,EN _ _ _ _ _ _ _ _ _ _ _ _ _ _ _ _ _ _ _ _ _ _ he he' hi hi' (D++E) (by rw[List.length_append];omega),hD,hE]
   exact OK.ret rfl
theorem EK(hc:c.length≤100000)(hb:∀x∈c,0≤x∧x<256)(hb':∀x∈c',0≤x∧x<256)(he:l.length=32)(he':l'.length=32)(hi:its.length=40)(hi':its'.length=40) :
  app (zc a0 a1 a2 a3 c l its a7 a8 a9 a10 b0 b1 b2 b3 c' l' its' b7 b8 b9 b10) (b0,b1,b2,b3,b7,b8,b9,b10,c',l',its',())=some (a0,a1,a2,a3,a7,a8,a9,a10,c,l,its,()):=by
 unfold zc;rw[gk,gk,gk];have e1:app (mL (jf a0 a1 a2 a3 a7 a8 a9 a10 b0 b1 b2 b3 b7 b8 b9 b10) (dH a0 a1 a2 a3 a7 a8 a9 a10)) (b0,b1,b2,b3,b7,b8,b9,b10,c',l',its',())=some (a0,a1,a2,a3,a7,a8,a9,a10,c',l',its',()):=by
  cases h:jf a0 a1 a2 a3 a7 a8 a9 a10 b0 b1 b2 b3 b7 b8 b9 b10 with
  | true =>
   simp only[jf,Bool.and_eq_true,beq_iff_eq,and_true]at h;obtain⟨rfl,rfl,rfl,rfl,rfl,rfl,rfl,rfl⟩:=h;rfl
  | false=>exact nV _ _
 have e2:app (mL (kP c c') (dC c)) (a0,a1,a2,a3,a7,a8,a9,a10,c',l',its',())=some (a0,a1,a2,a3,a7,a8,a9,a10,c,l',its',()):=by
  cases h:kP c c' with
  | true =>
   obtain rfl:=bytes_inj hb hb' (beq_iff_eq.1 h);rfl
  | false =>
   refine(nV _ _).trans ?_;unfold bk;rw[E4 _ _ _ _ _ _ _ _ _ _ _ c hc];rfl
 rw[e1];simp only[Option.bind_some];rw[e2];simp only[Option.bind_some];rw[zR _ _ _ _ _ _ _ _ _ _ l l' he he' 32 (Nat.le_refl _),List.take_of_length_le (by omega),List.drop_of_length_le (by omega),List.append_nil]
 simp only[Option.bind_some];rw[AR _ _ _ _ _ _ _ _ _ _ its its' hi hi' 40 (Nat.le_refl _),List.take_of_length_le (by omega),List.drop_of_length_le (by omega),List.append_nil]
end
end Go.Proofs.YthdgahpomhnidaaGreat.Tp
namespace Go.Proofs.YthdgahpomhnidaaGreat.Tp
open Go Mx Pc Run Field Gen GenL Fl Wd Ft Ln Nav Mn
set_option maxHeartbeats 2000000
theorem m7{s fr:Int}{z:WT}(h:lF s fr z):z.2.2.2.2.2.2.2.2.1.length=384∧z.2.2.2.2.2.2.2.2.2.1.length=32∧z.2.2.2.2.2.2.2.2.2.2.1.length=40∧∀x∈z.2.2.2.2.2.2.2.2.1,0≤x∧x<256:=by
 have hw:=h.2.2;refine⟨by rw[hw.hc];exact bR _ _,hw.wo.ei.len,hw.wo.it.len,?_⟩
 rw[hw.hc];intro x hx;obtain⟨i,hi,rfl⟩:=List.getElem_of_mem hx;have:=dq s z.2.2.1 i;rw[List.getD_eq_getElem?_getD,List.getElem?_eq_getElem hi]at this;simp only[Option.getD_some]at this;omega
noncomputable def DD(s:Int)(l:List (List Int))(j:Nat):List Dyn :=
 zc (wk s l j).1 (wk s l j).2.1 (wk s l j).2.2.1 (wk s l j).2.2.2.1 (wk s l j).2.2.2.2.2.2.2.2.1 (wk s l j).2.2.2.2.2.2.2.2.2.1 (wk s l j).2.2.2.2.2.2.2.2.2.2.1 (wk s l j).2.2.2.2.1 (wk s l j).2.2.2.2.2.1 (wk s l j).2.2.2.2.2.2.1 (wk s l j).2.2.2.2.2.2.2.1
  (wk s l (j+1)).1 (wk s l (j+1)).2.1 (wk s l (j+1)).2.2.1 (wk s l (j+1)).2.2.2.1 (wk s l (j+1)).2.2.2.2.2.2.2.2.1 (wk s l (j+1)).2.2.2.2.2.2.2.2.2.1 (wk s l (j+1)).2.2.2.2.2.2.2.2.2.2.1 (wk s l (j+1)).2.2.2.2.1 (wk s l (j+1)).2.2.2.2.2.1 (wk s l (j+1)).2.2.2.2.2.2.1 (wk s l (j+1)).2.2.2.2.2.2.2.1
theorem F3(s:Int)(l:List (List Int)){j:Nat}(hj:j≤900):app (DD s l j) (wk s l (j+1))=some (wk s l j):=by
 obtain⟨h1,h2,h3,h4⟩:=m7 (gZ s l j (by omega)).1
 obtain⟨k1,k2,k3,k4⟩:=m7 (gZ s l (j+1) (by omega)).1
 exact EK _ _ _ _ _ _ _ _ _ _ _ _ _ _ _ _ _ _ _ _ _ _ (by rw[h1];decide) h4 k4 h2 k2 h3 k3
theorem DQ(s:Int)(l:List (List Int)){j:Nat}(hj:j≤900)(F:List (List Dyn))(hF:F.length≤40) :
  f32_1 (wk s l j).1 (wk s l j).2.1 (wk s l j).2.2.1 (wk s l j).2.2.2.1 (wk s l j).2.2.2.2.2.2.2.2.1 (wk s l j).2.2.2.2.2.2.2.2.2.1 (wk s l j).2.2.2.2.2.2.2.2.2.2.1 (wk s l j).2.2.2.2.1 (wk s l j).2.2.2.2.2.1 (wk s l j).2.2.2.2.2.2.1 (wk s l j).2.2.2.2.2.2.2.1
   (wk s l (j+1)).1 (wk s l (j+1)).2.1 (wk s l (j+1)).2.2.1 (wk s l (j+1)).2.2.2.1 (wk s l (j+1)).2.2.2.2.2.2.2.2.1 (wk s l (j+1)).2.2.2.2.2.2.2.2.2.1 (wk s l (j+1)).2.2.2.2.2.2.2.2.2.2.1 (wk s l (j+1)).2.2.2.2.1 (wk s l (j+1)).2.2.2.2.2.1 (wk s l (j+1)).2.2.2.2.2.2.1 (wk s l (j+1)).2.2.2.2.2.2.2.1 64 F
   = some (((DD s l j).length:Int),64,F++[DD s l j],()):=by
 obtain⟨h1,h2,h3,h4⟩:=m7 (gZ s l j (by omega)).1
 obtain⟨k1,k2,k3,k4⟩:=m7 (gZ s l (j+1) (by omega)).1
 unfold f32_1;rw[yc _ _ _ _ _ _ _ _ _ _ _ _ _ _ _ _ _ _ _ _ _ _ (by rw[h1];decide) h2 k2 h3 k3]
 simp only[Option.bind_some];rw[beq_eq_false_iff_ne.2 (by omega),cond_false,decide_eq_true (by simp[aB];omega),cond_true]
 rfl
theorem EG{d:Dyn}{D:List Dyn}{z A:WT}(h:app (d::D) z=some A):∃y,bk d z=some y∧app D y=some A:=by
 have h:Option.bind (bk d z) (app D)=some A:=h;cases e:bk d z with
 | none=>rw[e]at h;cases h
 | some y=>rw[e]at h;exact⟨y,rfl,h⟩
theorem ze{D:List Dyn}(hD:D.length≤1000){k0:_→Option _}{Q:_→Prop}(v0 v1 v2 v6:Int)(F:List (List Dyn))(hv:0≤v0∧v0≤F.length){z A:WT}(h:app D z=some A)
  (hk:OK (k0 (v1,IntKind.wrap .i64 (v2+1),v6,List.drop 0 (List.take (Int.toNat v0) F),0,0,0,0,0,0,0,0,A.1,A.2.1,A.2.2.1,A.2.2.2.1,A.2.2.2.2.1,A.2.2.2.2.2.1,A.2.2.2.2.2.2.1,A.2.2.2.2.2.2.2.1,A.2.2.2.2.2.2.2.2.1,A.2.2.2.2.2.2.2.2.2.1,A.2.2.2.2.2.2.2.2.2.2.1,())) Q) :
  OK (f33_1.L1 k0 (v0,v1,v2,D,((D.length:Nat):Int),0,v6,F,0,0,0,0,0,0,0,0,z.1,z.2.1,z.2.2.1,z.2.2.2.1,z.2.2.2.2.1,z.2.2.2.2.2.1,z.2.2.2.2.2.2.1,z.2.2.2.2.2.2.2.1,z.2.2.2.2.2.2.2.2.1,z.2.2.2.2.2.2.2.2.2.1,z.2.2.2.2.2.2.2.2.2.2.1,())) Q:=by
 unfold f33_1.L1;refine OK.loop (fun j:Nat×WT=>(v0,v1,v2,D,((D.length:Nat):Int),(j.1:Int),v6,F,0,0,0,0,0,0,0,0,j.2.1,j.2.2.1,j.2.2.2.1,j.2.2.2.2.1,j.2.2.2.2.2.1,j.2.2.2.2.2.2.1,j.2.2.2.2.2.2.2.1,j.2.2.2.2.2.2.2.2.1,j.2.2.2.2.2.2.2.2.2.1,j.2.2.2.2.2.2.2.2.2.2.1,j.2.2.2.2.2.2.2.2.2.2.2.1,())) (fun j=>j.1≤D.length∧app (D.drop j.1) j.2=some A) (fun j=>D.length-j.1) (fun rec j hj ih=>?_) (0,z) rfl ⟨Nat.zero_le _,h⟩ (by dsimp only;omega)
 obtain⟨i,x⟩:=j;obtain⟨h1,h2⟩:=hj;dsimp only at h1 h2 ih ⊢;rw[af]
 by_cases q:i<D.length
 ·rw[if_pos (by omega),ao (by omega),cond_true,Int.toNat_natCast,wr (x:=(i:Int)+1) (by omega)]
  rw[List.drop_eq_getElem_cons q]at h2;obtain⟨y,e1,e2⟩:=EG h2;have eg:D.getD i Dyn.non=D[i]:=by simp[List.getD_eq_getElem?_getD,q]
  rw[eg];unfold bk at e1;cases e:f68 D[i] x.1 x.2.1 x.2.2.1 x.2.2.2.1 x.2.2.2.2.1 x.2.2.2.2.2.1 x.2.2.2.2.2.2.1 x.2.2.2.2.2.2.2.1 x.2.2.2.2.2.2.2.2.1 x.2.2.2.2.2.2.2.2.2.1 x.2.2.2.2.2.2.2.2.2.2.1 with
  | none=>rw[e]at e1;cases e1
  | some r =>
   rw[e]at e1;simp only[Option.bind_some,Option.some.injEq]at e1;subst e1;simp only[Option.bind_some];exact ih (i+1,_) ⟨(by dsimp only;omega),e2⟩ (by dsimp only;omega) _ rfl
 ·have:i=D.length:=by omega
  subst this;rw[List.drop_length]at h2;have h2:some x=some A:=h2;cases h2;rw[if_neg (by omega),decide_eq_true (by omega),cond_true]
  exact hk
noncomputable def FR(s:Int)(l:List (List Int))(n:Nat):List (List Dyn):=(List.range n).map fun j=>DD s l j
theorem k9(s:Int)(l:List (List Int))(n:Nat):(FR s l n).length=n:=by simp[FR]
theorem rz(s:Int)(l:List (List Int))(n:Nat):FR s l (n+1)=FR s l n++[DD s l n]:=by
 unfold FR;rw[List.range_succ,List.map_append];rfl
theorem FA(s:Int)(l:List (List Int))(j:Nat):(DD s l j).length≤100:=by
 unfold DD zc;have hd:∀b d,(mL b d).length≤1:=fun b d=>by cases b<;>simp[mL]
 rw[List.length_append,List.length_append,List.length_append];have h1:=ry (wk s l j).2.2.2.2.2.2.2.2.2.1 (wk s l (j+1)).2.2.2.2.2.2.2.2.2.1 32;have h2:=rZ (wk s l j).2.2.2.2.2.2.2.2.2.2.1 (wk s l (j+1)).2.2.2.2.2.2.2.2.2.2.1 40;have h3:=hd (jf (wk s l j).1 (wk s l j).2.1 (wk s l j).2.2.1 (wk s l j).2.2.2.1 (wk s l j).2.2.2.2.1 (wk s l j).2.2.2.2.2.1 (wk s l j).2.2.2.2.2.2.1 (wk s l j).2.2.2.2.2.2.2.1 (wk s l (j+1)).1 (wk s l (j+1)).2.1 (wk s l (j+1)).2.2.1 (wk s l (j+1)).2.2.2.1 (wk s l (j+1)).2.2.2.2.1 (wk s l (j+1)).2.2.2.2.2.1 (wk s l (j+1)).2.2.2.2.2.2.1 (wk s l (j+1)).2.2.2.2.2.2.2.1) (dH (wk s l j).1 (wk s l j).2.1 (wk s l j).2.2.1 (wk s l j).2.2.2.1 (wk s l j).2.2.2.2.1 (wk s l j).2.2.2.2.2.1 (wk s l j).2.2.2.2.2.2.1 (wk s l j).2.2.2.2.2.2.2.1);have h4:=hd (kP (wk s l j).2.2.2.2.2.2.2.2.1 (wk s l (j+1)).2.2.2.2.2.2.2.2.1) (dC (wk s l j).2.2.2.2.2.2.2.2.1);omega
theorem zx(s:Int)(l:List (List Int))(N k:Nat)(hN:N≤100)(hk:k≤N) :
  f33_1.L2 ((k:Int),0,64,FR s l N,0,0,0,0,0,0,0,0,(wk s l N).1,(wk s l N).2.1,(wk s l N).2.2.1,(wk s l N).2.2.2.1,(wk s l N).2.2.2.2.1,(wk s l N).2.2.2.2.2.1,(wk s l N).2.2.2.2.2.2.1,(wk s l N).2.2.2.2.2.2.2.1,(wk s l N).2.2.2.2.2.2.2.2.1,(wk s l N).2.2.2.2.2.2.2.2.2.1,(wk s l N).2.2.2.2.2.2.2.2.2.2.1,()) =
   some ((wk s l (N-k)).1,(wk s l (N-k)).2.1,(wk s l (N-k)).2.2.1,(wk s l (N-k)).2.2.2.1,(wk s l (N-k)).2.2.2.2.1,(wk s l (N-k)).2.2.2.2.2.1,(wk s l (N-k)).2.2.2.2.2.2.1,(wk s l (N-k)).2.2.2.2.2.2.2.1,0,64,FR s l (N-k),(wk s l (N-k)).2.2.2.2.2.2.2.2.1,(wk s l (N-k)).2.2.2.2.2.2.2.2.2.1,(wk s l (N-k)).2.2.2.2.2.2.2.2.2.2.1,()):=by
 refine OK.eq ?_;unfold f33_1.L2;refine OK.loop (fun j:Nat=>((k:Int),(j:Int),64,FR s l (N-j),0,0,0,0,0,0,0,0,(wk s l (N-j)).1,(wk s l (N-j)).2.1,(wk s l (N-j)).2.2.1,(wk s l (N-j)).2.2.2.1,(wk s l (N-j)).2.2.2.2.1,(wk s l (N-j)).2.2.2.2.2.1,(wk s l (N-j)).2.2.2.2.2.2.1,(wk s l (N-j)).2.2.2.2.2.2.2.1,(wk s l (N-j)).2.2.2.2.2.2.2.2.1,(wk s l (N-j)).2.2.2.2.2.2.2.2.2.1,(wk s l (N-j)).2.2.2.2.2.2.2.2.2.2.1,())) (fun j=>j≤k) (fun j=>k-j) (fun rec j hj ih=>?_) 0 rfl (Nat.zero_le _) (by omega)
 dsimp only;rw[af]
 by_cases q:j<k
 ·have nx:=ih (j+1) (by omega) (by omega) _ rfl
  obtain⟨m,hm⟩:∃m,N-j=m+1:=⟨N-j-1,by omega⟩
  rw[show N-(j+1)=m by omega]at nx
  rw[if_pos (by omega),hm,k9,wr (x:=((m+1:Nat):Int)-1) (by omega),ao (by omega),cond_true,show Int.toNat (((m+1:Nat):Int)-1)=m by omega]
  have eg:(FR s l (m+1)).getD m []=DD s l m:=by rw[rz];simp[List.getD_eq_getElem?_getD,k9]
  rw[eg];refine ze (A:=wk s l m) (by have:=FA s l m;omega) _ _ _ _ _ ⟨by omega,by rw[k9];omega⟩ (F3 s l (by omega)) ?_
  rw[wr (x:=(j:Int)+1) (by omega),show Int.toNat (((m+1:Nat):Int)-1)=m by omega,List.drop_zero,rz,List.take_left' (k9 s l m)]
  exact nx
 ·have:j=k:=by omega
  subst this;rw[if_neg (by omega)]
  exact OK.ret rfl
theorem E0(s:Int)(l:List (List Int))(N k:Nat)(hN:N≤100)(hk:k≤N) :
  f33_1 (wk s l N).1 (wk s l N).2.1 (wk s l N).2.2.1 (wk s l N).2.2.2.1 (wk s l N).2.2.2.2.2.2.2.2.1 (wk s l N).2.2.2.2.2.2.2.2.2.1 (wk s l N).2.2.2.2.2.2.2.2.2.2.1 (wk s l N).2.2.2.2.1 (wk s l N).2.2.2.2.2.1 (wk s l N).2.2.2.2.2.2.1 (wk s l N).2.2.2.2.2.2.2.1 (k:Int) 64 (FR s l N) =
   some ((wk s l (N-k)).1,(wk s l (N-k)).2.1,(wk s l (N-k)).2.2.1,(wk s l (N-k)).2.2.2.1,(wk s l (N-k)).2.2.2.2.1,(wk s l (N-k)).2.2.2.2.2.1,(wk s l (N-k)).2.2.2.2.2.2.1,(wk s l (N-k)).2.2.2.2.2.2.2.1,0,64,FR s l (N-k),(wk s l (N-k)).2.2.2.2.2.2.2.2.1,(wk s l (N-k)).2.2.2.2.2.2.2.2.2.1,(wk s l (N-k)).2.2.2.2.2.2.2.2.2.2.1,()):=by
 obtain⟨h1,h2,h3,h4⟩:=m7 (gZ s l N (by omega)).1
 have hw:f49 (k:Int) 0 (((FR s l N).length:Nat):Int)=some (true,()):=by
  unfold f49;rw[k9,decide_eq_true (by omega),cond_true,decide_eq_true (by omega)]
 unfold f33_1;rw[hw];simp only[Option.bind_some,Bool.not_true,cond_false];unfold f67;rw[Gd.jP _ (by rw[h1];decide)]
 simp only[Option.bind_some];rw[Gd.gX _ (by rw[h2];decide)]
 simp only[Option.bind_some];rw[Gd.g9 _ (by rw[h3];decide)]
 simp only[Option.bind_some];exact zx s l N k hN hk
end Go.Proofs.YthdgahpomhnidaaGreat.Tp

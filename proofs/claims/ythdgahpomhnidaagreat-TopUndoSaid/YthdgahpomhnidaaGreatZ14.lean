import Derived.Test.YthdgahpomhnidaaGreatZ13
set_option linter.unusedSimpArgs false
set_option linter.unusedVariables false
namespace Go.Proofs.YthdgahpomhnidaaGreat.Mn
open Go Mx Pc Run Field Gen GenL Fl Wd Ft Ln Nav
set_option maxHeartbeats 2000000
section
variable (a0 a1 a2 a3 a7 a8 a9 a10:Int) {c:List Int} (hc:CB c) {l:List ag} (hE:cM l) (its:List ak)
include hc hE
omit hc in
theorem tK{e:ag}{n:Nat}(h:0≤(seen c l e n).1):∃r:Nat,r<32∧(seen c l e n).1=r∧kd (l.getD r eN)=1∧bB (ex (l.getD r eN)) (ey (l.getD r eN))∧k6 c (ex e) (ey e) (ex (l.getD r eN)) (ey (l.getD r eN))=true:=by
 rcases zI c hE.len e n with q | ⟨s,_,h0,h1,h2⟩
 ·omega
 ·obtain⟨r,hr,er,hk,_⟩:=cI hE.len h0
  refine⟨r,hr,h1.trans er,hk,iR hE hr (by rw[hk];decide),?_⟩
  rw[er,Int.toNat_natCast]at h2;exact h2
theorem Cl(row:Int):f220 row a0 a1 a2 a3 c l its a7 a8 a9 a10=some (gN c l a0 a1 row,()):=by
 have hl:=hE.len;have lm:aX ((l.length:Nat):Int) 32=32:=by rw[br];omega
 unfold f220 gN;rw[af]
 by_cases q0:row<0
 ·rw[if_pos q0,if_pos (.inl q0)]
 rw[if_neg q0,af,lm]
 by_cases q1:row≥32
 ·rw[if_pos q1,if_pos (.inr (.inl q1))]
 rw[if_neg q1,ao (by omega),cond_true]
 have hr:row.toNat<32:=by omega
 have hg:=fun hk=>iR hE hr hk
 generalize hEe:l.getD row.toNat eN=E at *
 have ek:E.1=kd E:=rfl;rw[ek]
 by_cases k0:kd E=0
 ·rw[beq_iff_eq.2 k0,cond_true,if_pos (.inr (.inr (.inl k0)))]
 rw[beq_eq_false_iff_ne.2 k0,cond_false]
 by_cases k1:kd E=1
 ·rw[beq_iff_eq.2 k1,cond_true,if_pos (.inr (.inr (.inr k1)))]
 rw[beq_eq_false_iff_ne.2 k1,cond_false,if_neg (by rintro (z | z | z | z)<;>contradiction)]
 have hG:=hg k0;have hG':=hG;unfold bB at hG';rw[←ek,EO a0 a1 a2 a3 a7 a8 a9 a10 hc hE its E hG];simp only[Option.bind_some];have eX:E.2.2.2.1=ex E:=rfl;have eY:E.2.2.2.2.1=ey E:=rfl;unfold yK;rw[af]
 by_cases p:(seen c l E 4).1≥0
 ·obtain⟨r,hr32,er,hk,hgr,_⟩:=tK hE p
  have hgr':=hgr;unfold bB at hgr';have fX:(l.getD r Run.zE).2.2.2.1=ex (l.getD r eN):=rfl;have fY:(l.getD r Run.zE).2.2.2.2.1=ey (l.getD r eN):=rfl;rw[if_pos p,if_pos p,er,ao (by omega),cond_true,Int.toNat_natCast,eX,eY,fX,fY,(xE hG hgr).1,wr (x:=ey (l.getD r eN)*24) (by omega),wr (x:=ey (l.getD r eN)*24+ex (l.getD r eN)) (by omega),(p9 hc hE hG _).1]
  simp only[Option.bind_some]
  by_cases b:jw (ex E) (ey E) (ex (l.getD r eN)) (ey (l.getD r eN))=0
  ·rw[if_neg (fun z=>z b),b]
   rfl
  ·rw[if_pos b,bne_iff_ne.2 b,cond_true]
 ·rw[if_neg p,if_neg (show ¬0≤(seen c l E 4).1 from p)]
  obtain⟨ed,d0,d1⟩:=jZ 8 a0 [a1,row,90] (by simp) (by decide) (by decide)
  rw[Ft.j1,ed];simp only[Option.bind_some];generalize dz 8 a0 [a1,row,90]=D at *
  rw[af,af]
  by_cases v0:D<1
  ·rw[if_pos v0,if_neg (fun z=>by omega)]
  by_cases v1:D>4
  ·rw[if_neg v0,if_pos v1,if_neg (fun z=>by omega)]
  rw[if_neg v0,if_neg v1];obtain⟨j,hj,ej⟩:∃j:Nat,j<4∧D=1+(j:Int):=⟨(D-1).toNat,by omega,by omega⟩
  subst ej;have ej2:(1+(j:Int)-1).toNat=j:=by omega
  rw[ej2,tJ E hG j hj];simp only[Option.bind_some];have d:=dd j hj;rw[tk c hc _ _ (by omega) (by omega)]
  simp only[Option.bind_some];rw[jS,j8 l hl];simp only[Option.bind_some];rw[af];cases hw:aQ (dp c (ex E+ddx j) (ey E+bf j)) with
  | false=>rw[Bool.not_false,cond_true,if_neg (fun z=>by cases z.2.2.1)]
  | true =>
   rw[Bool.not_true,cond_false]
   by_cases a:cg l (ex E+ddx j) (ey E+bf j)≥0
   ·rw[if_pos a,if_neg (fun z=>by omega)]
   ·rw[if_neg a,if_pos ⟨by omega,by omega,rfl,by omega⟩]
theorem yl(row:Int):f111 a0 a1 a2 a3 c l its a7 a8 a9 a10 row=some (gN c l a0 a1 row,()):=Cl a0 a1 a2 a3 a7 a8 a9 a10 hc hE its row
theorem Ac(row:Int)(E:ag)(hG:bB (ex E) (ey E)):f88.L1 (row,0,-1,0,a0,a1,a2,a3,c,l,its,a7,a8,a9,a10,E.1,E.2.1,E.2.2.1,E.2.2.2.1,E.2.2.2.2.1,E.2.2.2.2.2.1,E.2.2.2.2.2.2.1,E.2.2.2.2.2.2.2.1,E.2.2.2.2.2.2.2.2.1,E.2.2.2.2.2.2.2.2.2.1,E.2.2.2.2.2.2.2.2.2.2,())=some (yK c l a0 a1 row E (seen c l E 4).1,()):=by
 have hl:=hE.len;have hG':=hG;unfold bB at hG';have eX:E.2.2.2.1=ex E:=rfl;have eY:E.2.2.2.2.1=ey E:=rfl;refine OK.eq ?_;unfold f88.L1;refine OK.loop (fun j:Nat=>(row,(seen c l E j).2,(seen c l E j).1,(j:Int),a0,a1,a2,a3,c,l,its,a7,a8,a9,a10,E.1,E.2.1,E.2.2.1,E.2.2.2.1,E.2.2.2.2.1,E.2.2.2.2.2.1,E.2.2.2.2.2.2.1,E.2.2.2.2.2.2.2.1,E.2.2.2.2.2.2.2.2.1,E.2.2.2.2.2.2.2.2.2.1,E.2.2.2.2.2.2.2.2.2.2,())) (fun j=>j≤4) (fun j=>4-j) (fun rec j hj ih=>?_) 0 rfl (Nat.zero_le _) (by decide)
 dsimp only at hj ih ⊢;rw[af]
 by_cases q:j<4
 ·have nx:=ih (j+1) (by omega) (by omega) _ rfl
  rw[nB]at nx;rw[if_pos (by omega),ga l (by omega),wr (x:=(j:Int)+1) (by omega)]
  simp only[Option.bind_some];rw[af];unfold qi at nx
  by_cases h0:ai l j<0
  ·rw[if_pos h0]at nx
   rw[if_pos h0];exact nx
  ·rw[if_neg h0]at nx
   obtain⟨r,hr,er,hk,_⟩:=cI hl h0;have hg:=iR hE hr (by rw[hk];decide)
   rw[er,Int.toNat_natCast]at nx;rw[if_neg h0,er,ao (by omega),cond_true,cond_true,Int.toNat_natCast]
   have hg':=hg;unfold bB at hg';have ex1:(l.getD r Run.zE).2.2.2.1=ex (l.getD r eN):=rfl;have ey1:(l.getD r Run.zE).2.2.2.2.1=ey (l.getD r eN):=rfl;rw[ex1,ey1,eX,eY,wr (x:=ex (l.getD r eN)-ex E) (by omega),wr (x:=ey (l.getD r eN)-ey E) (by omega),(wO _ _ (by omega) (by omega)).2.1]
   simp only[Option.bind_some];have hs:=Ct c hc (ex E) (ey E) _ _ hG hg;rw[hs];simp only[Option.bind_some];generalize dst (ex (l.getD r eN)-ex E) (ey (l.getD r eN)-ey E)=D at *
   rw[af,af,af];rw[eX,eY]at nx;generalize k6 c (ex E) (ey E) (ex (l.getD r eN)) (ey (l.getD r eN))=S at *
   by_cases d1:D≤1536
   ·rw[if_pos d1]
    cases S with
    | false=>rw[if_neg (fun z=>by cases z.2.2)]at nx;exact nx
    | true =>
     rw[cond_true]
     by_cases d2:(seen c l E j).1<0
     ·rw[if_pos d2]
      rw[if_pos ⟨d1,.inl d2,rfl⟩]at nx;exact nx
     ·rw[if_neg d2]
      by_cases d3:D<(seen c l E j).2
      ·rw[if_pos d3]
       rw[if_pos ⟨d1,.inr d3,rfl⟩]at nx;exact nx
      ·rw[if_neg d3]
       rw[if_neg (fun z=>by rcases z.2.1 with w | w<;>contradiction)]at nx
       exact nx
   ·rw[if_neg d1]
    rw[if_neg (fun z=>d1 z.1)]at nx
    exact nx
 ·have:j=4:=by omega
  subst this;rw[if_neg (by omega)]
  unfold yK;rw[af]
  by_cases p:(seen c l E 4).1≥0
  ·obtain⟨r,hr32,er,hk,hgr,_⟩:=tK hE p
   have hgr':=hgr;unfold bB at hgr';have fX:(l.getD r Run.zE).2.2.2.1=ex (l.getD r eN):=rfl;have fY:(l.getD r Run.zE).2.2.2.2.1=ey (l.getD r eN):=rfl;have hb:=(xE hG hgr).2;rw[if_pos p,if_pos p,er,ao (by omega),cond_true,cond_true,Int.toNat_natCast,eX,eY,fX,fY,hb.1,wr (x:=ey (l.getD r eN)*24) (by omega),wr (x:=ey (l.getD r eN)*24+ex (l.getD r eN)) (by omega),(p9 hc hE hG _).2]
   simp only[Option.bind_some];have b0:0≤jw (ex E) (ey E) (ex (l.getD r eN)) (ey (l.getD r eN)):=by
    rcases hb.2 with ⟨j,_,z,_⟩ | ⟨z,_⟩<;>omega
   rw[af]
   by_cases b:jw (ex E) (ey E) (ex (l.getD r eN)) (ey (l.getD r eN))=0
   ·rw[if_neg (show ¬jw (ex E) (ey E) (ex (l.getD r eN)) (ey (l.getD r eN))>0 by omega),if_neg (fun z=>z b)]
    exact OK.ret rfl
   ·rw[if_pos (show jw (ex E) (ey E) (ex (l.getD r eN)) (ey (l.getD r eN))>0 by omega),if_pos b]
    exact OK.ret rfl
  ·rw[if_neg p,if_neg (show ¬0≤(seen c l E 4).1 from p)]
   obtain⟨ed,d0,d1⟩:=jZ 8 a0 [a1,row,90] (by simp) (by decide) (by decide)
   rw[ed];simp only[Option.bind_some];generalize dz 8 a0 [a1,row,90]=D at *
   rw[af]
   by_cases v0:D≥1
   ·rw[if_pos v0]
    simp only[Option.bind_some,Sum.elim_inl];rw[af]
    by_cases v1:D≤4
    ·rw[if_pos v1]
     obtain⟨j,hj,ej⟩:∃j:Nat,j<4∧D=1+(j:Int):=⟨(D-1).toNat,by omega,by omega⟩
     subst ej;have ej2:(1+(j:Int)-1).toNat=j:=by omega
     have d:=dd j hj;rw[ej2,lk j hj,eX,eY];simp only[Option.bind_some];rw[wr (x:=ex E+ddx j) (by omega),wr (x:=ey E+bf j) (by omega),tf c hc]
     simp only[Option.bind_some];rw[j3,nv l (by omega)]
     simp only[Option.bind_some];rw[af];cases hw:aQ (dp c (ex E+ddx j) (ey E+bf j)) with
     | false=>rw[cond_false,if_neg (fun z=>by cases z.2.2.1)];exact OK.ret rfl
     | true =>
      rw[cond_true]
      by_cases a:cg l (ex E+ddx j) (ey E+bf j)<0
      ·rw[if_pos a,if_pos ⟨by omega,by omega,rfl,by omega⟩];exact OK.ret rfl
      ·rw[if_neg a,if_neg (fun z=>by omega)];exact OK.ret rfl
    ·rw[if_neg v1,if_neg (fun z=>by omega)]
     exact OK.ret rfl
   ·rw[if_neg v0,if_neg (fun z=>by omega)]
    exact OK.ret rfl
theorem wu(row:Int):f88 a0 a1 a2 a3 c l its a7 a8 a9 a10 row=some (gN c l a0 a1 row,()):=by
 have hl:=hE.len;unfold f88 gN;rw[af]
 by_cases q0:row<0
 ·rw[if_pos q0,if_pos (.inl q0)]
 rw[if_neg q0,af]
 by_cases q1:row≥32
 ·rw[if_pos (by omega),if_pos (.inr (.inl q1))]
 rw[if_neg (by omega),ao (by omega)]
 simp only[cond_true];have hr:row.toNat<32:=by omega
 have hg:=fun hk=>iR hE hr hk
 generalize hEe:l.getD row.toNat eN=E at *
 have ek:E.1=kd E:=rfl
 by_cases k0:kd E=0
 ·rw[ek,beq_iff_eq.2 k0,cond_true,if_pos (.inr (.inr (.inl k0)))]
 by_cases k1:kd E=1
 ·rw[ek,beq_eq_false_iff_ne.2 k0,cond_false,beq_iff_eq.2 k1,cond_true,if_pos (.inr (.inr (.inr k1)))]
 have b0:(E.1==0)=false:=beq_eq_false_iff_ne.2 k0;have b1:(E.1==1)=false:=beq_eq_false_iff_ne.2 k1;rw[b0,cond_false,b1,cond_false,if_neg (by rintro (z | z | z | z)<;>contradiction)]
 exact Ac a0 a1 a2 a3 a7 a8 a9 a10 hc hE its row E (hg k0)
end
end Go.Proofs.YthdgahpomhnidaaGreat.Mn
namespace Go.Proofs.YthdgahpomhnidaaGreat.Mn
open Go Mx Pc Run Field Gen GenL Fl Wd Ft Ln Nav
set_option maxHeartbeats 2000000
theorem ma{α:Type}[BEq α][LawfulBEq α]:∀(D l:List α),l.Nodup→(∀x∈l,x∈D)→l.length≤D.length
 | [],l,_,h=>by
  cases l with
  | nil=>exact Nat.le_refl _
  | cons a l=>exact absurd (h a List.mem_cons_self) (by simp)
 | d::D,l,hn,h=>by
  have h2:=ma D (l.erase d) (hn.erase d) fun x hx=>by
   have a:=h x (List.mem_of_mem_erase hx);have b:x≠d:=fun e=>by
    subst e;exact(hn.not_mem_erase) hx
   rcases List.mem_cons.1 a with e | e
   ·exact absurd e b
   ·exact e
  rw[List.length_cons]
  by_cases hm:d∈l
  ·have:=List.length_erase_of_mem hm
   omega
  ·have:=List.erase_of_not_mem hm
   rw[this]at h2;omega
def gG(s:Int)(x:ak):Bool:=x.1 !=0&&(x.2.1==2&&x.2.2.1==s)
def kW(its:List ak)(s:Int)(n:Nat):Nat:=((List.range n).filter fun k=>gG s (its.getD k iN)).length
def lS(its:List ak)(s:Int)(n:Nat):Bool:=(List.range n).any fun k=>gG s (its.getD k iN)&&(its.getD k iN).1==1
theorem AQ(its:List ak)(s:Int)(n:Nat):kW its s (n+1)=kW its s n+if gG s (its.getD n iN)=true then 1 else 0:=by
 unfold kW;rw[List.range_succ,List.filter_append,List.length_append,List.filter_cons,List.filter_nil];cases gG s (its.getD n iN)<;>rfl
theorem zW(its:List ak)(s:Int)(n:Nat):lS its s (n+1)=(lS its s n||(gG s (its.getD n iN)&&(its.getD n iN).1==1)):=by
 unfold lS;rw[List.range_succ,List.any_append];simp
theorem EU(its:List ak)(s:Int)(n:Nat):kW its s n≤n:=by
 unfold kW;exact Nat.le_trans (List.length_filter_le _ _) (by simp)
section
variable {c:List Int} {its:List ak} (h:aH c its) (s:Int)
include h
theorem qg{k:Nat}(hk:k<40)(hb:gG s (its.getD k iN)=true):∃b:Nat,b<4∧(its.getD k iN).2=(2,s,(b:Int))∧its.getD k iN≠iN:=by
 unfold gG at hb;rw[Bool.and_eq_true,Bool.and_eq_true,bne_iff_ne,beq_iff_eq,beq_iff_eq]at hb;have ne:its.getD k iN≠iN:=fun z=>hb.1 (by rw[z])
 rcases h.kind k hk with q | ⟨_,_,q⟩
 ·exact absurd q ne
 ·unfold cQ at q
  obtain⟨b0,b1,b2⟩:=hb;refine⟨(its.getD k iN).2.2.2.toNat,by omega,?_,ne⟩
  rw[Int.toNat_of_nonneg (by omega),←b1,←b2]
theorem rY{b:Int}(h0:0≤aA its 2 s b):∃k:Nat,k<40∧aA its 2 s b=k∧(its.getD k iN).2=(2,s,b)∧its.getD k iN≠iN∧gG s (its.getD k iN)=true:=by
 obtain⟨k,h1,h2,h3,_⟩:=j7 (show ¬aA its 2 s b<0 by omega)
 have hk:k<40:=by have:=h.len;omega
 unfold bN at h3;rw[Bool.and_eq_true,Bool.and_eq_true,beq_iff_eq,beq_iff_eq,beq_iff_eq]at h3;have ne:its.getD k iN≠iN:=fun z=>by
  have:=h3.1;rw[z]at this;exact absurd this (by decide)
 refine⟨k,hk,h2,by rw[←h3.1,←h3.2.1,←h3.2.2],ne,?_⟩
 rcases h.kind k hk with q | ⟨q,_⟩
 ·exact absurd q ne
 ·unfold gG
  rw[bne_iff_ne.2 (show (its.getD k iN).1≠0 by omega),beq_iff_eq.2 h3.1,beq_iff_eq.2 h3.2.1]
  rfl
theorem yu:lS its s 40=decide (0≤hold its s 1 1):=by
 have hb:∀b,cw its s 1 1 b=true→lS its s 40=true:=fun b hb=>by
  unfold cw at hb;rw[Bool.and_eq_true,Bool.and_eq_true,decide_eq_true_eq,decide_eq_true_eq,decide_eq_true_eq]at hb;obtain⟨k,hk,ek,_,_,hi⟩:=rY h s hb.1;rw[ek,Int.toNat_natCast]at hb;unfold lS;refine List.any_eq_true.2 ⟨k,List.mem_range.2 hk,?_⟩;rw[hi,beq_iff_eq.2 (show (its.getD k iN).1=1 by omega)]
  rfl
 cases e:lS its s 40 with
 | true =>
  obtain⟨k,hk,hx⟩:=List.any_eq_true.1 e;rw[Bool.and_eq_true,beq_iff_eq]at hx;have hk40:=List.mem_range.1 hk;obtain⟨b,hb4,eb,ne⟩:=qg h s hk40 hx.1;have i0:0≤aA its 2 s b:=by
   rcases Int.lt_or_le (aA its 2 s b) 0 with z | z
   ·have:=pD.1 z k (by have:=h.len;omega)
    unfold bN at this;rw[show (its.getD k iN).2.1=2 from congrArg Prod.fst eb,show (its.getD k iN).2.2.1=s from congrArg (fun y=>y.2.1) eb,show (its.getD k iN).2.2.2=(b:Int) from congrArg (fun y=>y.2.2) eb]at this
    simp at this
   ·exact z
  obtain⟨k',hk',ek',e2,_,_⟩:=rY h s i0;have:k=k':=h.one k k' hk40 hk' ne (by rw[eb,e2])
  subst this;have hB:cw its s 1 1 b=true:=by
   unfold cw;rw[decide_eq_true i0,ek',Int.toNat_natCast,hx.2];rfl
  symm;rw[decide_eq_true_eq];unfold hold;cases f:(List.range 4).find? (cw its s 1 1) with
  | none =>
   have:=List.find?_range_eq_none.1 f b hb4;rw[hB]at this;cases this
  | some b' =>
   have:=(List.find?_range_eq_some.1 f).1;unfold cw at this;rw[Bool.and_eq_true,decide_eq_true_eq]at this;exact this.1
 | false =>
  symm;rw[decide_eq_false_iff_not];intro z;unfold hold at z;cases f:(List.range 4).find? (cw its s 1 1) with
  | none=>rw[f]at z;exact absurd (show (0:Int)≤-1 from z) (by decide)
  | some b' =>
   have:=hb b' (List.find?_range_eq_some.1 f).1;rw[e]at this;cases this
theorem B7:decide ((kW its s 40:Int)<4)=decide (0≤bo its s):=by
 refine decide_eq_decide.2 ⟨fun z=>?_,fun z=>?_⟩
 ·rcases Int.lt_or_le (bo its s) 0 with q | q
  ·exfalso
   have hf:∀b:Nat,b<4→0≤aA its 2 s b:=fun b hb=>by
    have:=du.1 q b hb;rw[decide_eq_false_iff_not]at this;omega
   have hs:=fun(b:Nat) (hb:b<4)=>rY h s (hf b hb)
   obtain⟨k0,l0,_,e0,_,i0⟩:=hs 0 (by decide)
   obtain⟨k1,l1,_,e1,_,i1⟩:=hs 1 (by decide)
   obtain⟨k2,l2,_,e2,_,i2⟩:=hs 2 (by decide)
   obtain⟨k3,l3,_,e3,_,i3⟩:=hs 3 (by decide)
   have ne:∀{i j:Nat} {x y:Int},(its.getD i iN).2=(2,s,x)→(its.getD j iN).2=(2,s,y)→x≠y→i≠j:=fun a b hxy hij=>by
    subst hij;rw[a]at b;exact hxy (congrArg (fun y=>y.2.2) b)
   have hn:[k0,k1,k2,k3].Nodup:=by
    simp only[List.nodup_cons,List.mem_cons,List.not_mem_nil,or_false,not_or,not_false_eq_true,List.nodup_nil,and_true];exact⟨⟨ne e0 e1 (by decide),ne e0 e2 (by decide),ne e0 e3 (by decide)⟩,⟨ne e1 e2 (by decide),ne e1 e3 (by decide)⟩,ne e2 e3 (by decide)⟩
   have:=ma ((List.range 40).filter fun k=>gG s (its.getD k iN)) [k0,k1,k2,k3] hn (fun x hx=>by
    simp only[List.mem_cons,List.not_mem_nil,or_false]at hx;refine List.mem_filter.2 ?_;rcases hx with rfl | rfl | rfl | rfl
    ·exact⟨List.mem_range.2 l0,i0⟩
    ·exact⟨List.mem_range.2 l1,i1⟩
    ·exact⟨List.mem_range.2 l2,i2⟩
    ·exact⟨List.mem_range.2 l3,i3⟩)
   have e4:[k0,k1,k2,k3].length=4:=rfl;unfold kW at z;omega
  ·exact q
 ·obtain⟨B,hB4,_,h0',_⟩:=dX (p:=fun b:Nat=>decide (aA its 2 s b<0)) (n:=4) (by unfold bo at z;omega)
  have h0:=of_decide_eq_true h0';have key:=ma ((List.range 4).erase B) (((List.range 40).filter fun k=>gG s (its.getD k iN)).map fun k=>(its.getD k iN).2.2.2.toNat) ?_ ?_
  ·rw[List.length_map,List.length_erase_of_mem (List.mem_range.2 hB4),List.length_range]at key
   unfold kW;omega
  ·refine List.pairwise_map.2 (List.Pairwise.imp_of_mem (fun {k k'} hk hk' hne hx=>?_) (List.nodup_range.filter _))
   obtain⟨hk1,hk2⟩:=List.mem_filter.1 hk;obtain⟨hk1',hk2'⟩:=List.mem_filter.1 hk';obtain⟨b,hb,e,ne⟩:=qg h s (List.mem_range.1 hk1) hk2;obtain⟨b',hb',e',_⟩:=qg h s (List.mem_range.1 hk1') hk2';have e3:(its.getD k iN).2.2.2=(b:Int):=congrArg (fun y=>y.2.2) e
   have e3':(its.getD k' iN).2.2.2=(b':Int):=congrArg (fun y=>y.2.2) e'
   rw[e3,e3',Int.toNat_natCast,Int.toNat_natCast]at hx;subst hx;exact hne (h.one k k' (List.mem_range.1 hk1) (List.mem_range.1 hk1') ne (by rw[e,e']))
  ·intro x hx
   obtain⟨k,hk,rfl⟩:=List.mem_map.1 hx;obtain⟨hk1,hk2⟩:=List.mem_filter.1 hk;obtain⟨b',hb',e',_⟩:=qg h s (List.mem_range.1 hk1) hk2;have e3:(its.getD k iN).2.2.2=(b':Int):=congrArg (fun y=>y.2.2) e'
   rw[e3,Int.toNat_natCast];refine(List.mem_erase_of_ne fun z=>?_).2 (List.mem_range.2 hb')
   subst z;have:=pD.1 h0 k (by have:=h.len;have:=List.mem_range.1 hk1;omega)
   unfold bN at this;rw[show (its.getD k iN).2.1=2 from congrArg Prod.fst e',show (its.getD k iN).2.2.1=s from congrArg (fun y=>y.2.1) e',e3]at this
   simp at this
variable (a0 a1 a2 a3 a7 a8 a9 a10:Int) (l:List ag)
theorem Fg:f213 a0 a1 a2 a3 c l its a7 a8 a9 a10 s=some (decide (0≤hold its s 1 1),decide (0≤bo its s),()):=by
 have hl:=h.len;rw[←yu h s,←B7 h s];refine OK.eq ?_;unfold f213 f213.L1;refine OK.loop (fun i:Nat=>(s,lS its s i,(kW its s i:Int),its,(its.length:Int),(i:Int),())) (fun i=>i≤40) (fun i=>40-i) (fun rec i hi ih=>?_) 0 rfl (Nat.zero_le _) (by decide)
 dsimp only at hi ih ⊢;rw[af]
 by_cases q:i<40
 ·have nx:=ih (i+1) (by omega) (by omega) _ rfl
  have hn:=EU its s i;rw[AQ,zW]at nx;rw[if_pos (by omega),ao (by omega),cond_true,wr (x:=(i:Int)+1) (by omega),Int.toNat_natCast]
  unfold gG at nx;cases b1:(its.getD i iN).1 !=0 with
  | false=>rw[b1]at nx;rw[Bool.false_and,if_neg (by decide),Bool.false_and,Bool.or_false]at nx;exact nx
  | true =>
   rw[b1]at nx;rw[cond_true];cases b2:(its.getD i iN).2.1==2 with
   | false=>rw[b2]at nx;rw[Bool.false_and,Bool.and_false,if_neg (by decide),Bool.false_and,Bool.or_false]at nx;exact nx
   | true =>
    rw[b2]at nx;rw[cond_true];cases b3:(its.getD i iN).2.2.1==s with
    | false=>rw[b3]at nx;rw[Bool.and_false,Bool.and_false,if_neg (by decide),Bool.false_and,Bool.or_false]at nx;exact nx
    | true =>
     rw[b3]at nx;rw[Bool.and_true,Bool.and_true,if_pos rfl,Bool.true_and]at nx;rw[cond_true,wr (x:=(kW its s i:Int)+1) (by omega)]
     cases b4:lS its s i with
     | true=>rw[b4,Bool.true_or]at nx;exact nx
     | false=>rw[b4,Bool.false_or]at nx;exact nx
 ·have:i=40:=by omega
  subst this;rw[if_neg (by omega)]
  exact OK.ret rfl
def kg(its:List ak)(x y:Int)(free:Bool):Bool:=decide (0≤aA its 1 x y)&&(free||(its.getD (aA its 1 x y).toNat iN).1==4)
theorem B5(x y:Int)(free:Bool):f215 a0 a1 a2 a3 c l its a7 a8 a9 a10 x y free=some (kg its x y free,()):=by
 have hl:=h.len;unfold f215 f215.L1;refine(it_find (x:=(x,y,free,its,(its.length:Int),0,())) (fun i=>bN 1 x y (its.getD i iN)) its.length (fun i:Nat=>(x,y,free,its,(its.length:Int),(i:Int),())) (fun i=>some ((free||(its.getD i iN).1==4),())) (some (false,())) (fun rec i hi=>?_) (by omega) rfl).trans ?_
 ·dsimp only
  rw[af]
  by_cases q:i<its.length
  ·rw[if_pos (by omega),if_pos q,ao (by omega),cond_true,wr (x:=(i:Int)+1) (by omega),Int.toNat_natCast]
   have k0:bN 1 x y (its.getD i iN)=true→((its.getD i iN).1 !=0)=true:=fun z=>by
    unfold bN at z;rw[Bool.and_eq_true,beq_iff_eq]at z;rcases h.kind i (by omega) with w | w
    ·rw[w]at z;exact absurd z.1 (by decide)
    ·exact bne_iff_ne.2 (by omega)
   cases e:bN 1 x y (its.getD i iN) with
   | true =>
    have k1:=k0 e;unfold bN at e;rw[Bool.and_eq_true,Bool.and_eq_true]at e;have k1':((its.getD i (0,0,0,0)).1 !=0)=true:=k1;have e1':((its.getD i (0,0,0,0)).2.1==1)=true:=e.1;have e2':((its.getD i (0,0,0,0)).2.2.1==x)=true:=e.2.1;have e3':((its.getD i (0,0,0,0)).2.2.2==y)=true:=e.2.2;rw[k1',e1',e2',e3'];simp only[cond_true,if_true];cases free<;>rfl
   | false =>
    unfold bN at e;simp only[Bool.false_eq_true,if_false];cases (its.getD i iN).1 !=0 with
    | false=>rfl
    | true =>
     have e':((its.getD i (0,0,0,0)).2.1==1&&((its.getD i (0,0,0,0)).2.2.1==x&&(its.getD i (0,0,0,0)).2.2.2==y))=false:=e
     revert e'
     cases (its.getD i (0,0,0,0)).2.1==1<;>cases (its.getD i (0,0,0,0)).2.2.1==x<;>cases (its.getD i (0,0,0,0)).2.2.2==y<;>intro e'<;>first | rfl | (exact absurd e' (by decide))
  ·rw[if_neg (by omega),if_neg q]
 ·unfold kg aA
  cases e:(List.range its.length).find? fun i=>bN 1 x y (its.getD i iN) with
  | none=>rfl
  | some k =>
   show some ((free||(its.getD k iN).1==4),())=some ((decide ((0:Int)≤(k:Int))&&(free||(its.getD ((k:Int)).toNat iN).1==4)),())
   rw[decide_eq_true (by omega),Int.toNat_natCast,Bool.true_and]
end
end Go.Proofs.YthdgahpomhnidaaGreat.Mn
namespace Go.Proofs.YthdgahpomhnidaaGreat.Mn
open Go Mx Pc Run Field Gen GenL Fl Wd Ft Ln Nav
set_option maxHeartbeats 2000000
theorem tA(l:List ag)(x y:Int):-1≤cg l x y∧cg l x y<l.length:=qD
section
variable (c:List Int) (l:List ag)
def uk(e:ag)(j:Nat):Bool:=decide (0≤cg l (ex e+ddx j) (ey e+bf j))&&kd (l.getD (cg l (ex e+ddx j) (ey e+bf j)).toNat eN) !=1
noncomputable def tT(its:List ak)(s:Int)(e:ag):Int :=
 match (List.range 4).find? (uk l e) with
 | some j=>1+(j:Int)
 | none=>if kg its (ex e) (ey e) (decide (0≤bo its s))=true then 5 else if dp c (ex e) (ey e)=4 then 9 else jt c l (cd (ex e) (ey e)) (gi c 4)
noncomputable def pX(its:List ak)(s:Int):Int :=
 if ai l s<0 then 0 else
 if 0≤hold its s 1 1∧hp (l.getD (ai l s).toNat eN)≤Int.tdiv (bE (l.getD (ai l s).toNat eN)) 3 then 6
 else tT c l its s (l.getD (ai l s).toNat eN)
end
section
variable (a0 a1 a2 a3 a7 a8 a9 a10:Int) {c:List Int} (hc:CB c) (hcl:c.length=384) {l:List ag} (hE:cM l) {its:List ak} (hI:aH c its) (s:Int)
include hc hcl hE hI
theorem Cd(e:ag)(hG:bB (ex e) (ey e)):f212.L1 (decide (0≤bo its s),1,a0,a1,a2,a3,c,l,its,a7,a8,a9,a10,e.1,e.2.1,e.2.2.1,e.2.2.2.1,e.2.2.2.2.1,e.2.2.2.2.2.1,e.2.2.2.2.2.2.1,e.2.2.2.2.2.2.2.1,e.2.2.2.2.2.2.2.2.1,e.2.2.2.2.2.2.2.2.2.1,e.2.2.2.2.2.2.2.2.2.2,())=some (tT c l its s e,()):=by
 have hl:=hE.len;have hG':=hG;unfold bB at hG';have eX:e.2.2.2.1=ex e:=rfl;have eY:e.2.2.2.2.1=ey e:=rfl;unfold f212.L1;refine(it_find (x:=(decide (0≤bo its s),1,a0,a1,a2,a3,c,l,its,a7,a8,a9,a10,e.1,e.2.1,e.2.2.1,e.2.2.2.1,e.2.2.2.2.1,e.2.2.2.2.2.1,e.2.2.2.2.2.2.1,e.2.2.2.2.2.2.2.1,e.2.2.2.2.2.2.2.2.1,e.2.2.2.2.2.2.2.2.2.1,e.2.2.2.2.2.2.2.2.2.2,())) (uk l e) 4 (fun j:Nat=>(decide (0≤bo its s),1+(j:Int),a0,a1,a2,a3,c,l,its,a7,a8,a9,a10,e.1,e.2.1,e.2.2.1,e.2.2.2.1,e.2.2.2.2.1,e.2.2.2.2.2.1,e.2.2.2.2.2.2.1,e.2.2.2.2.2.2.2.1,e.2.2.2.2.2.2.2.2.1,e.2.2.2.2.2.2.2.2.2.1,e.2.2.2.2.2.2.2.2.2.2,())) (fun j=>some (1+(j:Int),())) (some (if kg its (ex e) (ey e) (decide (0≤bo its s))=true then 5 else if dp c (ex e) (ey e)=4 then 9 else jt c l (cd (ex e) (ey e)) (gi c 4),())) (fun rec j hj=>?_) (by omega) rfl).trans ?_
 ·dsimp only
  rw[af]
  by_cases q:j<4
  ·have d:=dd j q
   rw[if_pos (by omega),if_pos q,tJ e hG j q]
   simp only[Option.bind_some];rw[j8 l hl,wr (x:=1+(j:Int)+1) (by omega)]
   simp only[Option.bind_some];have hb:=tA l (ex e+ddx j) (ey e+bf j);have ej:1+(j:Int)+1=1+((j+1:Nat):Int):=by omega
   unfold uk;rw[af]
   by_cases k0:0≤cg l (ex e+ddx j) (ey e+bf j)
   ·rw[if_pos k0,ao (by omega),cond_true,decide_eq_true k0,Bool.true_and,ej,cH]
    rfl
   ·rw[if_neg k0,decide_eq_false k0,Bool.false_and,if_neg (by decide),ej]
  ·rw[if_neg (by omega),if_neg q,eX,eY,B5 hI a0 a1 a2 a3 a7 a8 a9 a10 l,tk c hc _ _ (by omega) (by omega),Ft.qV c hc hcl 4 (by decide)]
   simp only[Option.bind_some];rw[(p9 hc hE hG _).1];simp only[Option.bind_some];cases kg its (ex e) (ey e) (decide (0≤bo its s)) with
   | true=>rfl
   | false =>
    rw[cond_false,if_neg (by decide)]
    by_cases k:dp c (ex e) (ey e)=4
    ·rw[if_pos k,beq_iff_eq.2 k,cond_true]
    ·rw[if_neg k,beq_eq_false_iff_ne.2 k,cond_false]
 ·unfold tT
  cases (List.range 4).find? (uk l e)<;>rfl
theorem zF(e:ag)(hG:bB (ex e) (ey e)):f84.L1 (s,1,a0,a1,a2,a3,c,l,its,a7,a8,a9,a10,e.1,e.2.1,e.2.2.1,e.2.2.2.1,e.2.2.2.2.1,e.2.2.2.2.2.1,e.2.2.2.2.2.2.1,e.2.2.2.2.2.2.2.1,e.2.2.2.2.2.2.2.2.1,e.2.2.2.2.2.2.2.2.2.1,e.2.2.2.2.2.2.2.2.2.2,())=some (tT c l its s e,()):=by
 have hl:=hE.len;have hil:=hI.len;have hG':=hG;unfold bB at hG';have eX:e.2.2.2.1=ex e:=rfl;have eY:e.2.2.2.2.1=ey e:=rfl;unfold f84.L1;refine(it_find (x:=(s,1,a0,a1,a2,a3,c,l,its,a7,a8,a9,a10,e.1,e.2.1,e.2.2.1,e.2.2.2.1,e.2.2.2.2.1,e.2.2.2.2.2.1,e.2.2.2.2.2.2.1,e.2.2.2.2.2.2.2.1,e.2.2.2.2.2.2.2.2.1,e.2.2.2.2.2.2.2.2.2.1,e.2.2.2.2.2.2.2.2.2.2,())) (uk l e) 4 (fun j:Nat=>(s,1+(j:Int),a0,a1,a2,a3,c,l,its,a7,a8,a9,a10,e.1,e.2.1,e.2.2.1,e.2.2.2.1,e.2.2.2.2.1,e.2.2.2.2.2.1,e.2.2.2.2.2.2.1,e.2.2.2.2.2.2.2.1,e.2.2.2.2.2.2.2.2.1,e.2.2.2.2.2.2.2.2.2.1,e.2.2.2.2.2.2.2.2.2.2,())) (fun j=>some (1+(j:Int),())) (some (if kg its (ex e) (ey e) (decide (0≤bo its s))=true then 5 else if dp c (ex e) (ey e)=4 then 9 else jt c l (cd (ex e) (ey e)) (gi c 4),())) (fun rec j hj=>?_) (by omega) rfl).trans ?_
 ·dsimp only
  rw[af]
  by_cases q:j<4
  ·have d:=dd j q
   rw[if_pos (by omega),if_pos q,lk j q,eX,eY]
   simp only[Option.bind_some];rw[wr (x:=ex e+ddx j) (by omega),wr (x:=ey e+bf j) (by omega),nv l (by omega),wr (x:=1+(j:Int)+1) (by omega)]
   simp only[Option.bind_some];have hb:=tA l (ex e+ddx j) (ey e+bf j);have ej:1+(j:Int)+1=1+((j+1:Nat):Int):=by omega
   unfold uk;rw[af]
   by_cases k0:0≤cg l (ex e+ddx j) (ey e+bf j)
   ·rw[if_pos k0,ao (by omega),cond_true,decide_eq_true k0,Bool.true_and,ej,cH]
    rfl
   ·rw[if_neg k0,decide_eq_false k0,Bool.false_and,if_neg (by decide),ej]
  ·rw[if_neg (by omega),if_neg q,eX,eY,fy its (by omega)]
   simp only[Option.bind_some];have ib:=dS its 1 (ex e) (ey e);have fin:Option.bind (f86 c (ex e) (ey e)) (fun y6=>bif y6.1==4 then some (9,()) else Option.bind (f90 c 4) fun y7=>Option.bind (f138 c l (ex e) (ey e) [y7.1]) fun y8=>some (y8.1,()))=some (if dp c (ex e) (ey e)=4 then 9 else jt c l (cd (ex e) (ey e)) (gi c 4),()):=by
    rw[tf c hc,uc c hc hcl];simp only[Option.bind_some];rw[(p9 hc hE hG _).2];simp only[Option.bind_some]
    by_cases k:dp c (ex e) (ey e)=4
    ·rw[if_pos k,beq_iff_eq.2 k,cond_true]
    ·rw[if_neg k,beq_eq_false_iff_ne.2 k,cond_false]
   unfold kg;rw[af]
   by_cases i0:0≤aA its 1 (ex e) (ey e)
   ·rw[if_pos i0,ao (by omega),cond_true,decide_eq_true i0,Bool.true_and]
    have e4:(its.getD (aA its 1 (ex e) (ey e)).toNat (0,0,0,0)).1=(its.getD (aA its 1 (ex e) (ey e)).toNat iN).1:=rfl;rw[e4];cases (its.getD (aA its 1 (ex e) (ey e)).toNat iN).1==4 with
    | true =>
     rw[cond_true,Bool.or_true,if_pos rfl];rfl
    | false =>
     rw[cond_false,Bool.or_false,o9 its (by omega)]
     simp only[Option.bind_some];rw[af]
     by_cases f0:0≤bo its s
     ·rw[if_pos f0,decide_eq_true f0,if_pos rfl]
      rfl
     ·rw[if_neg f0,decide_eq_false f0,if_neg (by decide)]
      simp only[Option.bind_some,Sum.elim_inl];exact fin
   ·rw[if_neg i0,decide_eq_false i0,Bool.false_and,if_neg (by decide)]
    simp only[Option.bind_some,Sum.elim_inl];exact fin
 ·unfold tT
  cases (List.range 4).find? (uk l e)<;>rfl
variable (hM:∀i,i<32→0≤bE (l.getD i eN)∧bE (l.getD i eN)≤1000)
include hM
theorem Cw:f22 a0 a1 a2 a3 c l its a7 a8 a9 a10 s=some (pX c l its s,()):=by
 have hl:=hE.len;show f212 s a0 a1 a2 a3 c l its a7 a8 a9 a10=_;unfold f212 pX;rw[gY l hl];simp only[Option.bind_some];rw[af]
 by_cases h0:ai l s<0
 ·rw[if_pos h0,if_pos h0]
 obtain⟨r,hr,er,hk,_⟩:=cI hl h0;have hg:=iR hE hr (by rw[hk];decide)
 have hm:=hM r hr;rw[if_neg h0,if_neg h0,er,ao (by omega),cond_true,Int.toNat_natCast,Fg hI s a0 a1 a2 a3 a7 a8 a9 a10 l]
 simp only[Option.bind_some];have eH:(l.getD r Run.zE).2.2.2.2.2.1=hp (l.getD r eN):=rfl;have eM:(l.getD r Run.zE).2.2.2.2.2.2.1=bE (l.getD r eN):=rfl;have tail:=Cd a0 a1 a2 a3 a7 a8 a9 a10 hc hcl hE hI s (l.getD r eN) hg
 by_cases p:0≤hold its s 1 1
 ·rw[decide_eq_true p,cond_true,af,eH,eM]
  have wm:IntKind.wrap .i64 (Int.tdiv (bE (l.getD r eN)) 3)=Int.tdiv (bE (l.getD r eN)) 3:=by
   rw[Int.tdiv_eq_ediv_of_nonneg hm.1];exact wr (by omega)
  rw[wm]
  by_cases q:hp (l.getD r eN)≤Int.tdiv (bE (l.getD r eN)) 3
  ·rw[if_pos q,if_pos ⟨p,q⟩]
   rfl
  ·rw[if_neg q,if_neg (fun z=>q z.2)]
   exact tail
 ·rw[decide_eq_false p,cond_false,if_neg (fun z=>p z.1)]
  exact tail
theorem yS:f84 a0 a1 a2 a3 c l its a7 a8 a9 a10 s=some (pX c l its s,()):=by
 have hl:=hE.len;have hil:=hI.len;unfold f84 pX;rw[ga l (by omega)]
 simp only[Option.bind_some];rw[af]
 by_cases h0:ai l s<0
 ·rw[if_pos h0,if_pos h0]
 obtain⟨r,hr,er,hk,_⟩:=cI hl h0;have hg:=iR hE hr (by rw[hk];decide)
 have hm:=hM r hr;rw[if_neg h0,if_neg h0,er,ao (by omega),cond_true,Int.toNat_natCast]
 have eH:(l.getD r Run.zE).2.2.2.2.2.1=hp (l.getD r eN):=rfl;have eM:(l.getD r Run.zE).2.2.2.2.2.2.1=bE (l.getD r eN):=rfl;have tail:=zF a0 a1 a2 a3 a7 a8 a9 a10 hc hcl hE hI s (l.getD r eN) hg;have wm:IntKind.wrap .i64 (Int.tdiv (bE (l.getD r eN)) 3)=Int.tdiv (bE (l.getD r eN)) 3:=by
  rw[Int.tdiv_eq_ediv_of_nonneg hm.1];exact wr (by omega)
 rw[eH,eM,wm,lV its (by omega),af]
 simp only[Option.bind_some]
 by_cases q:hp (l.getD r eN)≤Int.tdiv (bE (l.getD r eN)) 3
 ·rw[if_pos q,af]
  by_cases p:0≤hold its s 1 1
  ·rw[if_pos p,if_pos ⟨p,q⟩]
   rfl
  ·rw[if_neg p,if_neg (fun z=>p z.1)]
   exact tail
 ·rw[if_neg q,if_neg (fun z=>q z.2)]
  exact tail
end
end Go.Proofs.YthdgahpomhnidaaGreat.Mn
namespace Go.Proofs.YthdgahpomhnidaaGreat.Mn
open Go Mx Pc Run Field Gen GenL Fl Wd Ft Ln Nav
set_option maxHeartbeats 2000000
structure jJ (l:List ag):Prop where
 kf:cM l
 ok:eC l
 apart:∀i j,i<32→j<32→kd (l.getD i eN)≠0→kd (l.getD j eN)≠0→ex (l.getD i eN)=ex (l.getD j eN)→ey (l.getD i eN)=ey (l.getD j eN)→i=j
 fq:∀i j,i<32→j<32→kd (l.getD i eN)=1→kd (l.getD j eN)=1→st (l.getD i eN)=st (l.getD j eN)→i=j
theorem FK{l:List ag}(h:eC l):∀i,i<32→0≤bE (l.getD i eN)∧bE (l.getD i eN)≤1000:=fun i hi=>by
 rcases h.tZ i hi with ⟨_,q⟩ | q
 ·rw[q]
  show 0≤(0:Int)∧(0:Int)≤1000;decide
 ·omega
section
variable {l:List ag} (A:jJ l)
include A
theorem CG{h:Nat}(hh:h<32)(hk:kd (l.getD h eN)=1):ai l (st (l.getD h eN))=h:=by
 have hl:=A.kf.len;have n:¬ai l (st (l.getD h eN))<0:=fun z=>by
  have:=du.1 z h (by omega)
  unfold bC at this;rw[hk]at this;simp at this
 obtain⟨r,hr,er,k1,k2,_⟩:=cI hl n;rw[er,A.fq r h hr hh k1 hk k2]
theorem Fu{r:Nat}(hr:r<32)(hk:kd (l.getD r eN)≠0):cg l (ex (l.getD r eN)) (ey (l.getD r eN))=r:=by
 have hl:=A.kf.len;have n:¬cg l (ex (l.getD r eN)) (ey (l.getD r eN))<0:=fun z=>by
  have:=du.1 z r (by omega)
  unfold cE at this;rw[bne_iff_ne.2 hk]at this;simp at this
 obtain⟨k,h1,h2,h3,_⟩:=dX n;unfold cE at h3;rw[Bool.and_eq_true,Bool.and_eq_true,bne_iff_ne,beq_iff_eq,beq_iff_eq]at h3;have e:cg l (ex (l.getD r eN)) (ey (l.getD r eN))=k:=h2;rw[e,A.apart k r (by omega) hr h3.1 hk h3.2.1 h3.2.2]
end
theorem mg{l:List ag}(hl:l.length=32){x y:Int}:cg l x y<0↔∀r,r<32→kd (l.getD r eN)≠0→¬(ex (l.getD r eN)=x∧ey (l.getD r eN)=y):=by
 unfold cg;rw[du,hl];refine⟨fun h r hr hk hz=>?_,fun h r hr=>?_⟩
 ·have:=h r hr
  unfold cE at this;rw[bne_iff_ne.2 hk,hz.1,hz.2]at this;simp at this
 ·unfold cE
  by_cases hk:kd (l.getD r eN)=0
  ·rw[hk];rfl
  ·rw[bne_iff_ne.2 hk,Bool.true_and]
   cases e:ex (l.getD r eN)==x&&ey (l.getD r eN)==y with
   | false=>rfl
   | true =>
    rw[Bool.and_eq_true,beq_iff_eq,beq_iff_eq]at e;exact absurd e (h r hr hk)
theorem BX{l:List ag}(hl:l.length=32){x y:Int}(h:0≤cg l x y):∃r:Nat,r<32∧cg l x y=r∧kd (l.getD r eN)≠0∧ex (l.getD r eN)=x∧ey (l.getD r eN)=y:=by
 obtain⟨k,h1,h2,h3,_⟩:=dX (show ¬cg l x y<0 by omega)
 unfold cE at h3;rw[Bool.and_eq_true,Bool.and_eq_true,bne_iff_ne,beq_iff_eq,beq_iff_eq]at h3;exact⟨k,by omega,h2,h3.1,h3.2.1,h3.2.2⟩
end Go.Proofs.YthdgahpomhnidaaGreat.Mn
namespace Go.Proofs.YthdgahpomhnidaaGreat.Gd
open Go Mx Pc Run Field Gen GenL Fl Wd
set_option maxHeartbeats 1000000
def kd(e:ag):Int:=e.1
def st(e:ag):Int:=e.2.2.1
def ex(e:ag):Int:=e.2.2.2.1
def ey(e:ag):Int:=e.2.2.2.2.1
def hp(e:ag):Int:=e.2.2.2.2.2.1
def bE(e:ag):Int:=e.2.2.2.2.2.2.1
def eV(its:List ak):Prop:=its.length=40∧∀i,i<its.length→(its.getD i iN).2.1≠0→(its.getD i iN).1≠0
theorem iJ{c:List Int}{its:List ak}(h:aH c its):eV its:=⟨h.len,fun i hi hw=>by
 have hl:=h.len;rcases h.kind i (by omega) with q | q
 ·rw[q]at hw
  exact absurd rfl hw
 ·omega⟩
theorem jP(l:List Int)(h:l.length≤100000):f103 l=some (l,()):=by
 unfold f103 da;rw[decide_eq_true (by simp[aB];omega),cond_true];rfl
theorem gX(l:List ag)(h:l.length≤100000):f104 l=some (l,()):=by
 unfold f104 da;rw[decide_eq_true (by simp[aB];omega),cond_true];rfl
theorem g9(l:List ak)(h:l.length≤100000):f105 l=some (l,()):=by
 unfold f105 da;rw[decide_eq_true (by simp[aB];omega),cond_true];rfl
def oI:Option Nat→Int
 | some i=>(i:Int)
 | none=>-1
theorem du{p:Nat→Bool}{n:Nat}:oI ((List.range n).find? p)<0↔∀i,i<n→p i=false:=by
 cases h:(List.range n).find? p with
 | none =>
  exact⟨fun _ i hi=>by simpa using List.find?_range_eq_none.1 h i hi,fun _=>(by decide:(-1:Int)<0)⟩
 | some k =>
  obtain⟨h1,h2,_⟩:=List.find?_range_eq_some.1 h;refine⟨fun q=>absurd q (by show ¬(k:Int)<0;omega),fun q=>?_⟩
  rw[q k (List.mem_range.1 h2)]at h1;cases h1
theorem dX{p:Nat→Bool}{n:Nat}(h:¬oI ((List.range n).find? p)<0):∃k,k<n∧oI ((List.range n).find? p)=k∧p k=true∧∀j,j<k→p j=false:=by
 cases e:(List.range n).find? p with
 | none=>rw[e]at h;exact absurd (by decide:(-1:Int)<0) h
 | some k =>
  obtain⟨h1,h2,h3⟩:=List.find?_range_eq_some.1 e;exact⟨k,List.mem_range.1 h2,rfl,h1,fun j hj=>by simpa using h3 j hj⟩
theorem qD{p:Nat→Bool}{n:Nat}:-1≤oI ((List.range n).find? p)∧oI ((List.range n).find? p)<(n:Int):=by
 by_cases h:oI ((List.range n).find? p)<0
 ·cases e:(List.range n).find? p with
  | none=>exact⟨Int.le_refl _,by show (-1:Int)<n;omega⟩
  | some k=>rw[e]at h;exact absurd h (by show ¬(k:Int)<0;omega)
 ·obtain⟨k,h1,h2,_⟩:=dX h
  omega
def bC(s:Int)(e:ag):Bool:=kd e==1&&st e==s
def ai(l:List ag)(s:Int):Int:=oI ((List.range l.length).find? fun i=>bC s (l.getD i eN))
theorem ga(l:List ag)(hl:l.length≤100000)(s:Int):f21 l s=some (ai l s,()):=by
 unfold f21 f21.L1 ai;refine(it_find (x:=(l,s,0,())) (fun i=>bC s (l.getD i eN)) l.length (fun i:Nat=>(l,s,(i:Int),())) (fun i=>some ((i:Int),())) (some (-1,())) (fun rec i hi=>?_) (by omega) rfl).trans ?_
 rotate_left
 ·cases (List.range l.length).find? fun i=>bC s (l.getD i eN)<;>rfl
 ·dsimp only
  rw[af]
  by_cases c:i<l.length
  ·rw[if_pos c,if_pos (by omega),ao (by omega),wr (by omega),Int.toNat_natCast]
   simp only[cond_true];unfold bC kd st;cases (l.getD i Run.zE).1==1<;>cases (l.getD i Run.zE).2.2.1==s<;>rfl
  ·rw[if_neg c,if_neg (by omega)]
theorem lv(l:List ag)(hl:l.length=32):f162 l=some (l,()):=by
 unfold f162;have e:aX ((l.length:Nat):Int) 32=32:=by rw[br];omega
 rw[e,decide_eq_true (by omega),cond_true,show Int.toNat 32=l.length by omega,List.take_length,List.drop_zero]
theorem gY(l:List ag)(hl:l.length=32)(s:Int):f97 l s=some (ai l s,()):=by
 unfold f97 f153 f153.L1 ai;rw[lv l hl];simp only[Option.bind_some];have key:=it_find (fuel:=100000000000000000000) (x:=(l,(l.length:Int),0,s,())) (step:=fun rec x=>bif decide (x.2.2.1<x.2.1) then bif ae x.2.2.1 x.1.length then Option.bind (f155 x.2.2.1 (x.1.getD x.2.2.1.toNat Run.zE).1 (x.1.getD x.2.2.1.toNat Run.zE).2.1 (x.1.getD x.2.2.1.toNat Run.zE).2.2.1 (x.1.getD x.2.2.1.toNat Run.zE).2.2.2.1 (x.1.getD x.2.2.1.toNat Run.zE).2.2.2.2.1 (x.1.getD x.2.2.1.toNat Run.zE).2.2.2.2.2.1 (x.1.getD x.2.2.1.toNat Run.zE).2.2.2.2.2.2.1 (x.1.getD x.2.2.1.toNat Run.zE).2.2.2.2.2.2.2.1 (x.1.getD x.2.2.1.toNat Run.zE).2.2.2.2.2.2.2.2.1 (x.1.getD x.2.2.1.toNat Run.zE).2.2.2.2.2.2.2.2.2.1 (x.1.getD x.2.2.1.toNat Run.zE).2.2.2.2.2.2.2.2.2.2 x.2.2.2.1) fun y0=>bif y0.1 then some (x.2.2.1,x.2.2.2.1,()) else rec (x.1,x.2.1,IntKind.wrap .i64 (x.2.2.1+1),x.2.2.2.1,()) else none else some (-1,x.2.2.2.1,())) (fun i=>bC s (l.getD i eN)) l.length (fun i:Nat=>(l,(l.length:Int),(i:Int),s,())) (fun i=>some ((i:Int),s,())) (some (-1,s,())) (fun rec i hi'=>by
  dsimp only;rw[af]
  by_cases q:i<l.length
  ·rw[if_pos (by omega),if_pos q,ao (by omega),cond_true,wr (by omega),Int.toNat_natCast]
   have ef:f155 (i:Int) (l.getD i eN).1 (l.getD i eN).2.1 (l.getD i eN).2.2.1 (l.getD i eN).2.2.2.1 (l.getD i eN).2.2.2.2.1 (l.getD i eN).2.2.2.2.2.1 (l.getD i eN).2.2.2.2.2.2.1 (l.getD i eN).2.2.2.2.2.2.2.1 (l.getD i eN).2.2.2.2.2.2.2.2.1 (l.getD i eN).2.2.2.2.2.2.2.2.2.1 (l.getD i eN).2.2.2.2.2.2.2.2.2.2 s=some (bC s (l.getD i eN),()):=by
    unfold f155 bC kd st;cases (l.getD i eN).1==1<;>rfl
   rw[ef];simp only[Option.bind_some];cases bC s (l.getD i eN)<;>rfl
  ·rw[if_neg (by omega),if_neg q]) (by omega) rfl
 refine(congrArg (fun z=>Option.bind z fun y0=>some (y0.1,())) key).trans ?_
 cases (List.range l.length).find? fun i=>bC s (l.getD i eN)<;>rfl
def bo(its:List ak)(s:Int):Int:=oI ((List.range 4).find? fun b:Nat=>decide (aA its 2 s b<0))
def cw(its:List ak)(s lo hi:Int)(b:Nat):Bool:=decide (0≤aA its 2 s b)&&(decide (lo≤(its.getD (aA its 2 s b).toNat iN).1)&&decide ((its.getD (aA its 2 s b).toNat iN).1≤hi))
def hold(its:List ak)(s lo hi:Int):Int:=match (List.range 4).find? (cw its s lo hi) with
 | some b=>aA its 2 s b
 | none=>-1
theorem dS(its:List ak)(w a b:Int):-1≤aA its w a b∧aA its w a b<its.length:=by
 by_cases h:aA its w a b<0
 ·unfold aA at h ⊢
  cases e:(List.range its.length).find? fun i=>bN w a b (its.getD i iN) with
  | none=>exact⟨Int.le_refl _,by show (-1:Int)<_;omega⟩
  | some k=>rw[e]at h;exact absurd h (by show ¬(k:Int)<0;omega)
 ·obtain⟨k,h1,h2,_⟩:=j7 h
  omega
theorem o9(its:List ak)(hl:its.length≤1000)(s:Int):f137 its s=some (bo its s,()):=by
 unfold f137 f137.L1 bo;refine(it_find (x:=(its,s,0,())) (fun b:Nat=>decide (aA its 2 s b<0)) 4 (fun b:Nat=>(its,s,(b:Int),())) (fun b=>some ((b:Int),())) (some (-1,())) (fun rec b hb=>?_) (by omega) rfl).trans ?_
 rotate_left
 ·cases (List.range 4).find? fun b:Nat=>decide (aA its 2 s b<0)<;>rfl
 ·dsimp only
  rw[af]
  by_cases q:b<4
  ·rw[if_pos (by omega),if_pos q,fy its (by omega),wr (by omega)]
   simp only[Option.bind_some];rw[cH];rfl
  ·rw[if_neg (by omega),if_neg q]
theorem lA(its:List ak)(hl:its.length≤1000)(s lo hi:Int):f142 its s lo hi=some (hold its s lo hi,()):=by
 unfold f142 f142.L1 hold;refine(it_find (x:=(its,s,lo,hi,0,())) (cw its s lo hi) 4 (fun b:Nat=>(its,s,lo,hi,(b:Int),())) (fun b=>some (aA its 2 s b,())) (some (-1,())) (fun rec b hb=>?_) (by omega) rfl).trans ?_
 rotate_left
 ·cases (List.range 4).find? (cw its s lo hi)<;>rfl
 ·dsimp only
  rw[af]
  by_cases q:b<4
  ·rw[if_pos (by omega),if_pos q,fy its (by omega),wr (by omega)]
   simp only[Option.bind_some];have ib:=dS its 2 s b;unfold cw;rw[af]
   by_cases h0:aA its 2 s b≥0
   ·have h0':0≤aA its 2 s b:=h0
    rw[if_pos h0,ao (by omega),decide_eq_true h0']
    simp only[cond_true,Bool.true_and];rw[af,af]
    by_cases h1:lo≤(its.getD (aA its 2 s b).toNat iN).1
    ·by_cases h2:(its.getD (aA its 2 s b).toNat iN).1≤hi
     ·rw[if_pos (show (its.getD (aA its 2 s b).toNat (0,0,0,0)).1≥lo from h1),if_pos (show (its.getD (aA its 2 s b).toNat (0,0,0,0)).1≤hi from h2),decide_eq_true h1,decide_eq_true h2];rfl
     ·rw[if_pos (show (its.getD (aA its 2 s b).toNat (0,0,0,0)).1≥lo from h1),if_neg (show ¬(its.getD (aA its 2 s b).toNat (0,0,0,0)).1≤hi from h2),decide_eq_true h1,decide_eq_false h2];rfl
    ·rw[if_neg (show ¬(its.getD (aA its 2 s b).toNat (0,0,0,0)).1≥lo from h1),decide_eq_false h1];rfl
   ·have h0':¬0≤aA its 2 s b:=h0
    rw[if_neg h0,decide_eq_false h0'];rfl
  ·rw[if_neg (by omega),if_neg q]
theorem lV(its:List ak)(hl:its.length≤1000)(s:Int):f134 its s=some (hold its s 1 1,()):=by
 unfold f134;rw[lA its hl];rfl
section
variable (a0 a1 a2 a3:Int) (c:List Int) (a7 a8 a9 a10:Int)
theorem pR{l:List ag}{its:List ak}(hc:c.length≤1000)(hl:l.length≤1000)(hi:its.length≤1000):f176 a0 a1 a2 a3 c l its a7 a8 a9 a10=some (a0,a1,a2,a3,a7,a8,a9,a10,c,l,its,()):=by
 unfold f176;rw[jP c (by omega),gX l (by omega),g9 its (by omega)]
 rfl
theorem fj{l:List ag}{its:List ak}(hc:c.length≤1000)(hl:l.length≤1000)(hi:its.length≤1000):f79 a0 a1 a2 a3 c l its a7 a8 a9 a10=some (a0,a1,a2,a3,a7,a8,a9,a10,c,l,its,()):=by
 unfold f79;rw[decide_eq_true (by simp[aB];omega),decide_eq_true (by simp[aB];omega),decide_eq_true (by simp[aB];omega)]
 rfl
theorem find_eq{its:List ak}(hi:eV its){l:List ag}(w a b:Int)(hw:w≠0):f180 a0 a1 a2 a3 c l its a7 a8 a9 a10 w a b=some (aA its w a b,()):=by
 have hlen:=hi.1;unfold f180 f189 f189.L1;have key:Mx.it _ _ _=_:=it_find (fuel:=100000000000000000000) (x:=(its,(its.length:Int),0,w,a,b,())) (step:=fun rec x=>bif decide (x.2.2.1<x.2.1) then bif ae x.2.2.1 x.1.length then Option.bind (f190 (x.1.getD x.2.2.1.toNat (0,0,0,0)).1 (x.1.getD x.2.2.1.toNat (0,0,0,0)).2.1 (x.1.getD x.2.2.1.toNat (0,0,0,0)).2.2.1 (x.1.getD x.2.2.1.toNat (0,0,0,0)).2.2.2 x.2.2.2.1 x.2.2.2.2.1 x.2.2.2.2.2.1) fun y0=>bif y0.1 then some (x.2.2.1,x.2.2.2.1,x.2.2.2.2.1,x.2.2.2.2.2.1,()) else rec (x.1,x.2.1,IntKind.wrap .i64 (x.2.2.1+1),x.2.2.2.1,x.2.2.2.2.1,x.2.2.2.2.2.1,()) else none else some (-1,x.2.2.2.1,x.2.2.2.2.1,x.2.2.2.2.2.1,())) (fun i=>bN w a b (its.getD i iN)) its.length (fun i:Nat=>(its,(its.length:Int),(i:Int),w,a,b,())) (fun i=>some ((i:Int),w,a,b,())) (some (-1,w,a,b,())) (fun rec i hi'=>by
  dsimp only;rw[af]
  by_cases q:i<its.length
  ·rw[if_pos (by omega),if_pos q,ao (by omega),cond_true,wr (by omega),Int.toNat_natCast]
   have hk:=hi.2 i q;have ef:f190 (its.getD i iN).1 (its.getD i iN).2.1 (its.getD i iN).2.2.1 (its.getD i iN).2.2.2 w a b=some (bN w a b (its.getD i iN),()):=by
    unfold f190 bN
    by_cases k0:(its.getD i iN).1=0
    ·have k1:((its.getD i iN).1 !=0)=false:=by rw[k0];rfl
     have w0:(its.getD i iN).2.1=0:=Decidable.byContradiction fun z=>hk z k0
     have w1:((its.getD i iN).2.1==w)=false:=by rw[beq_eq_false_iff_ne,w0];exact fun z=>hw z.symm
     rw[k1,w1];rfl
    ·have k1:((its.getD i iN).1 !=0)=true:=bne_iff_ne.2 k0
     rw[k1,cond_true];cases (its.getD i iN).2.1==w<;>cases (its.getD i iN).2.2.1==a<;>cases (its.getD i iN).2.2.2==b<;>rfl
   rw[ef];simp only[Option.bind_some];cases bN w a b (its.getD i iN)<;>rfl
  ·rw[if_neg (by omega),if_neg q]) (by omega) rfl
 rw[key];unfold aA;cases (List.range its.length).find? fun i=>bN w a b (its.getD i iN)<;>rfl
theorem empty_eq{its:List ak}(hi:eV its){l:List ag}(s:Int):f193 a0 a1 a2 a3 c l its a7 a8 a9 a10 s=some (bo its s,()):=by
 unfold f193 f187 f187.L1;have key:Mx.it _ _ _=_:=it_find (fuel:=100000000000000000000) (x:=(s,0,a0,a1,a2,a3,c,l,its,a7,a8,a9,a10,())) (step:=fun rec x=>bif decide (x.2.1<4) then Option.bind (f180 x.2.2.1 x.2.2.2.1 x.2.2.2.2.1 x.2.2.2.2.2.1 x.2.2.2.2.2.2.1 x.2.2.2.2.2.2.2.1 x.2.2.2.2.2.2.2.2.1 x.2.2.2.2.2.2.2.2.2.1 x.2.2.2.2.2.2.2.2.2.2.1 x.2.2.2.2.2.2.2.2.2.2.2.1 x.2.2.2.2.2.2.2.2.2.2.2.2.1 2 x.1 x.2.1) fun y0=>Option.bind (f194 y0.1) fun y1=>bif y1.1 then some (x.2.1,()) else rec (x.1,IntKind.wrap .i64 (x.2.1+1),x.2.2.1,x.2.2.2.1,x.2.2.2.2.1,x.2.2.2.2.2.1,x.2.2.2.2.2.2.1,x.2.2.2.2.2.2.2.1,x.2.2.2.2.2.2.2.2.1,x.2.2.2.2.2.2.2.2.2.1,x.2.2.2.2.2.2.2.2.2.2.1,x.2.2.2.2.2.2.2.2.2.2.2.1,x.2.2.2.2.2.2.2.2.2.2.2.2.1,()) else some (-1,())) (fun b:Nat=>decide (aA its 2 s b<0)) 4 (fun b:Nat=>(s,(b:Int),a0,a1,a2,a3,c,l,its,a7,a8,a9,a10,())) (fun b=>some ((b:Int),())) (some (-1,())) (fun rec b hb=>by
  dsimp only;rw[af]
  by_cases q:b<4
  ·rw[if_pos (by omega),if_pos q,find_eq a0 a1 a2 a3 c a7 a8 a9 a10 hi 2 s b (by decide),wr (by omega)]
   simp only[Option.bind_some];unfold f194;simp only[Option.bind_some];rw[cH];rfl
  ·rw[if_neg (by omega),if_neg q]) (by omega) rfl
 refine(congrArg (fun z=>Option.bind z fun y0=>some (y0.1,())) key).trans ?_
 unfold bo;cases (List.range 4).find? fun b:Nat=>decide (aA its 2 s b<0)<;>rfl
end
end Go.Proofs.YthdgahpomhnidaaGreat.Gd
namespace Go.Proofs.YthdgahpomhnidaaGreat.Gd
open Go Mx Pc Run Field Gen GenL Fl Wd
set_option maxHeartbeats 1000000
theorem contains_eq(ks:List Int)(hl:ks.length≤1000)(k:Int):f129 ks k=some (decide (k∈ks),()):=by
 have key:f73 ks k=some (oI ((List.range ks.length).find? fun i=>k==ks.getD i 0),()):=by
  unfold f73 f73.L1;refine(it_find (x:=(ks,k,(ks.length:Int),0,())) (fun i=>k==ks.getD i 0) ks.length (fun i:Nat=>(ks,k,(ks.length:Int),(i:Int),())) (fun i=>some ((i:Int),())) (some (-1,())) (fun rec i hi=>?_) (by omega) rfl).trans ?_
  rotate_left
  ·cases (List.range ks.length).find? fun i=>k==ks.getD i 0<;>rfl
  ·dsimp only
   rw[af]
   by_cases q:i<ks.length
   ·rw[if_pos (by omega),if_pos q,ao (by omega),wr (by omega),Int.toNat_natCast]
    simp only[cond_true];rw[cH];rfl
   ·rw[if_neg (by omega),if_neg q]
 unfold f129;rw[key];simp only[Option.bind_some];refine congrArg (fun b=>some (b,())) (decide_eq_decide.2 ?_)
 constructor
 ·intro h
  obtain⟨i,h1,h2,h3,_⟩:=dX (p:=fun i=>k==ks.getD i 0) (n:=ks.length) (by omega)
  have e:=beq_iff_eq.1 h3;rw[e,List.getD_eq_getElem?_getD,List.getElem?_eq_getElem h1];exact List.getElem_mem _
 ·intro h
  refine Decidable.byContradiction fun z=>?_
  have hn:=du.1 (show oI ((List.range ks.length).find? fun i=>k==ks.getD i 0)<0 by omega)
  obtain⟨i,hi,e⟩:=List.mem_iff_getElem.1 h;have:=hn i hi;rw[List.getD_eq_getElem?_getD,List.getElem?_eq_getElem hi,Option.getD_some,e]at this;simp at this
def mv(x:ak)(w a b:Int):ak:=(x.1,w,a,b)
def jd(its:List ak)(s i:Int):List ak:=if bo its s<0 then its else its.set i.toNat (mv (its.getD i.toNat iN) 2 s (bo its s))
section
variable (a0 a1 a2 a3:Int) (c:List Int) (a7 a8 a9 a10:Int)
theorem mE{its:List ak}(hi:eV its){l:List ag}(s lo hi':Int)(ks:List Int)(hks:ks.length≤1000)
  (hP:∀b:Nat,b<4→0≤aA its 2 s b→decide ((its.getD (aA its 2 s b).toNat iN).1∈ks)=(decide (lo≤(its.getD (aA its 2 s b).toNat iN).1)&&decide ((its.getD (aA its 2 s b).toNat iN).1≤hi'))) :
  f178 a0 a1 a2 a3 c l its a7 a8 a9 a10 s ks=some (hold its s lo hi',()):=by
 have key:f187_1 a0 a1 a2 a3 c l its a7 a8 a9 a10 s ks a0 a1 a2 a3 c l its a7 a8 a9 a10=some (oI ((List.range 4).find? (cw its s lo hi')),ks,a0,a1,a2,a3,c,l,its,a7,a8,a9,a10,()):=by
  unfold f187_1 f187_1.L1;refine(it_find (x:=(s,0,ks,a0,a1,a2,a3,c,l,its,a7,a8,a9,a10,a0,a1,a2,a3,c,l,its,a7,a8,a9,a10,())) (cw its s lo hi') 4 (fun b:Nat=>(s,(b:Int),ks,a0,a1,a2,a3,c,l,its,a7,a8,a9,a10,a0,a1,a2,a3,c,l,its,a7,a8,a9,a10,())) (fun b=>some ((b:Int),ks,a0,a1,a2,a3,c,l,its,a7,a8,a9,a10,())) (some (-1,ks,a0,a1,a2,a3,c,l,its,a7,a8,a9,a10,())) (fun rec b hb=>?_) (by omega) rfl).trans ?_
  rotate_left
  ·cases (List.range 4).find? (cw its s lo hi')<;>rfl
  ·dsimp only
   rw[af]
   by_cases q:b<4
   ·rw[if_pos (by omega),if_pos q,find_eq a0 a1 a2 a3 c a7 a8 a9 a10 hi 2 s b (by decide),wr (by omega)]
    simp only[Option.bind_some];unfold f188 cw;dsimp only;have ib:=dS its 2 s b;rw[af]
    by_cases h0:aA its 2 s b≥0
    ·have h0':0≤aA its 2 s b:=h0
     rw[if_pos h0,ao (by omega),cond_true,contains_eq ks hks,decide_eq_true h0']
     simp only[Option.bind_some];rw[←hP b q h0,Bool.true_and,cH];rfl
    ·have h0':¬0≤aA its 2 s b:=h0
     rw[if_neg h0,decide_eq_false h0'];rfl
   ·rw[if_neg (by omega),if_neg q]
 unfold f178 hold;rw[key];simp only[Option.bind_some];cases e:(List.range 4).find? (cw its s lo hi') with
 | none=>rfl
 | some b =>
  have:oI (some b)=(b:Int):=rfl;rw[this,af,if_neg (by omega),find_eq a0 a1 a2 a3 c a7 a8 a9 a10 hi 2 s b (by decide)]
  rfl
theorem wH{its:List ak}(hi:eV its)(l:List ag)(s i:Int)(h0:0≤i)(h1:i<its.length) :
  f186 a0 a1 a2 a3 a7 a8 a9 a10 s i c l its=some (decide (0≤bo its s),c,l,jd its s i,()):=by
 unfold f186 jd;rw[empty_eq a0 a1 a2 a3 c a7 a8 a9 a10 hi];simp only[Option.bind_some];rw[af]
 by_cases q:bo its s<0
 ·rw[if_pos q,if_pos q,decide_eq_false (by omega)]
 ·have gs:∀x:ak,(its.set i.toNat x).getD i.toNat (0,0,0,0)=x:=fun x=>by rw[aN,if_pos ⟨rfl,by omega⟩]
  rw[if_neg q,if_neg q,decide_eq_true (by omega),ao (by omega),cond_true]
  simp only[List.set_set,gs];rfl
end
def cq(g0 g1 g2 g3 s:Int):Int:=[g0,g1,g2,g3].getD s.toNat 0
def fQ(s v:Int)(j:Nat)(g:Int):Int:=if s.toNat=j then v else g
abbrev GT:=Int×Int×Int×Int×List ak
def dB(its:List ak)(g0 g1 g2 g3 s x y:Int):GT :=
 if aA its 1 x y<0 then (g0,g1,g2,g3,its) else
 if (its.getD (aA its 1 x y).toNat iN).1=4 then (fQ s (min (cq g0 g1 g2 g3 s+5) 999) 0 g0,fQ s (min (cq g0 g1 g2 g3 s+5) 999) 1 g1,fQ s (min (cq g0 g1 g2 g3 s+5) 999) 2 g2,fQ s (min (cq g0 g1 g2 g3 s+5) 999) 3 g3,its.set (aA its 1 x y).toNat iN)
 else (g0,g1,g2,g3,jd its s (aA its 1 x y))
def nQ(its:List ak)(s i:Int):List ak :=
 if aA its 3 s ((its.getD i.toNat iN).1-2)<0 then its else
 its.set (aA its 3 s ((its.getD i.toNat iN).1-2)).toNat ((its.getD (aA its 3 s ((its.getD i.toNat iN).1-2)).toNat iN).1,2,(its.getD (aA its 3 s ((its.getD i.toNat iN).1-2)).toNat iN).2.2.1,(its.getD i.toNat iN).2.2.2)
def nI(its:List ak)(s:Int):List ak :=
 if hold its s 2 3<0 then its else
 (nQ its s (hold its s 2 3)).set (hold its s 2 3).toNat (((nQ its s (hold its s 2 3)).getD (hold its s 2 3).toNat iN).1,3,((nQ its s (hold its s 2 3)).getD (hold its s 2 3).toNat iN).2.2.1,(its.getD (hold its s 2 3).toNat iN).1-2)
def qM(its:List ak)(s x y:Int):List ak :=
 if 0≤hold its s 1 3∧aA its 1 x y<0 then its.set (hold its s 1 3).toNat (mv (its.getD (hold its s 1 3).toNat iN) 1 x y) else its
open Classical in
noncomputable def dp(c:List Int)(x y:Int):Int:=if bB x y then Field.rd c (cd x y) else 0
def wareI(its:List ak):Int:=match (List.range 3).find? (fun k:Nat=>decide (0≤aA its 4 k 0)) with
 | some k=>aA its 4 k 0
 | none=>-1
open Classical in
noncomputable def eZ(c:List Int)(its:List ak)(g0 g1 g2 g3 s x y:Int):GT :=
 if dp c x y≠5∨cq g0 g1 g2 g3 s<5∨wareI its<0∨bo its s<0 then (g0,g1,g2,g3,its)
 else (fQ s (cq g0 g1 g2 g3 s-5) 0 g0,fQ s (cq g0 g1 g2 g3 s-5) 1 g1,fQ s (cq g0 g1 g2 g3 s-5) 2 g2,fQ s (cq g0 g1 g2 g3 s-5) 3 g3,jd its s (wareI its))
def jg(g0 g1 g2 g3:Int):Prop:=(0≤g0∧g0≤999)∧(0≤g1∧g1≤999)∧(0≤g2∧g2≤999)∧(0≤g3∧g3≤999)
theorem m5{g0 g1 g2 g3 s:Int}(h:jg g0 g1 g2 g3):0≤cq g0 g1 g2 g3 s∧cq g0 g1 g2 g3 s≤999:=by
 unfold cq;unfold jg at h
 match s.toNat with
 | 0=>exact h.1
 | 1=>exact h.2.1
 | 2=>exact h.2.2.1
 | 3=>exact h.2.2.2
 | n+4=>exact⟨Int.le_refl _,(by decide:(0:Int)≤999)⟩
def FW(its:List ak):Prop:=∀i,i<its.length→(its.getD i iN).2.1=4→(its.getD i iN).2.2.2=0
theorem DK{c:List Int}{its:List ak}(h:aH c its):FW its:=fun i hi hw=>by
 have hl:=h.len;rcases h.kind i (by omega) with q | ⟨_,_,q⟩
 ·rw[q]
 ·unfold cQ at q;omega
section
variable (a0 a1 a2 a3:Int) (c:List Int) (a7 a8 a9 a10:Int)
theorem EV{its:List ak}(hi:eV its)(l:List ag)(g0 g1 g2 g3 s x y e0 e1 e2 e5 e6 e7 e8 e9 e10:Int)(hs:0≤s∧s<4)(hg:jg g0 g1 g2 g3) :
  f177 s e0 e1 e2 x y e5 e6 e7 e8 e9 e10 a0 a1 a2 a3 g0 g1 g2 g3 c l its =
  some (a0,a1,a2,a3,(dB its g0 g1 g2 g3 s x y).1,(dB its g0 g1 g2 g3 s x y).2.1,(dB its g0 g1 g2 g3 s x y).2.2.1,(dB its g0 g1 g2 g3 s x y).2.2.2.1,c,l,(dB its g0 g1 g2 g3 s x y).2.2.2.2,()):=by
 unfold f177 dB;rw[find_eq a0 a1 a2 a3 c g0 g1 g2 g3 hi 1 x y (by decide)]
 simp only[Option.bind_some];have ib:=dS its 1 x y;have gb:=m5 (s:=s) hg;rw[af]
 by_cases q:aA its 1 x y<0
 ·rw[if_pos q,if_pos q]
 ·have ir:ae (aA its 1 x y) its.length=true:=ao (by omega)
  have is:ae s 4=true:=ao (by omega)
  rw[if_neg q,if_neg q];simp only[ir,is,cond_true]
  by_cases k:(its.getD (aA its 1 x y).toNat iN).1=4
  ·rw[if_pos k,beq_iff_eq.2 k,cond_true]
   have e:aX (IntKind.wrap .i64 ([g0,g1,g2,g3].getD s.toNat 0+5)) 999=min (cq g0 g1 g2 g3 s+5) 999:=by
    unfold cq at gb ⊢;rw[wr (by omega),br]
   simp only[e];rfl
  ·rw[if_neg k,beq_eq_false_iff_ne.2 k,cond_false,wH a0 a1 a2 a3 c g0 g1 g2 g3 hi l s _ (by omega) (by omega)]
   rfl
theorem lj{its:List ak}{s lo hi:Int}:-1≤hold its s lo hi∧hold its s lo hi<its.length:=by
 unfold hold;split
 ·rename_i b _
  exact dS its 2 s b
 ·exact⟨Int.le_refl _,by omega⟩
theorem sV{its:List ak}{s lo hi:Int}(h:0≤hold its s lo hi):∃b:Nat,b<4∧hold its s lo hi=aA its 2 s b∧cw its s lo hi b=true∧∀j,j<b→cw its s lo hi j=false:=by
 unfold hold at h ⊢;split at h
 ·rename_i b e
  obtain⟨h1,h2,h3⟩:=List.find?_range_eq_some.1 e;exact⟨b,List.mem_range.1 h2,rfl,h1,fun j hj=>by simpa using h3 j hj⟩
 ·omega
theorem m6{its:List ak}{s lo hi:Int}(h:0≤hold its s lo hi):lo≤(its.getD (hold its s lo hi).toNat iN).1∧(its.getD (hold its s lo hi).toNat iN).1≤hi:=by
 obtain⟨b,_,e,hb,_⟩:=sV h;unfold cw at hb;rw[e];simp only[Bool.and_eq_true,decide_eq_true_eq]at hb;exact hb.2
theorem ED{its:List ak}(hi:eV its)(l:List ag)(s:Int):f179 a0 a1 a2 a3 a7 a8 a9 a10 s c l its=some (c,l,nI its s,()):=by
 unfold f179 nI;rw[mE a0 a1 a2 a3 c a7 a8 a9 a10 hi s 2 3 [2,3] (by decide) (fun b hb h=>by
  rw[Bool.eq_iff_iff];simp only[List.mem_cons,List.not_mem_nil,or_false,decide_eq_true_eq,Bool.and_eq_true];omega)]
 simp only[Option.bind_some];have hb:=lj (its:=its) (s:=s) (lo:=2) (hi:=3);rw[af]
 by_cases q:hold its s 2 3<0
 ·rw[if_pos q,if_pos q]
 ·have hk:=m6 (its:=its) (s:=s) (lo:=2) (hi:=3) (by omega)
  rw[if_neg q,if_neg q,ao (by omega),cond_true]
  have e2:IntKind.wrap .i64 ((its.getD (hold its s 2 3).toNat (0,0,0,0)).1-2)=(its.getD (hold its s 2 3).toNat iN).1-2:=wr (x:=(its.getD (hold its s 2 3).toNat iN).1-2) (by omega)
  rw[e2,find_eq a0 a1 a2 a3 c a7 a8 a9 a10 hi 3 s _ (by decide)]
  simp only[Option.bind_some];unfold nQ;have ib:=dS its 3 s ((its.getD (hold its s 2 3).toNat iN).1-2);generalize aA its 3 s ((its.getD (hold its s 2 3).toNat iN).1-2)=o at *
  have fin:∀its1:List ak,its1.length=its.length→∀x:ak,(its1.set (hold its s 2 3).toNat x).getD (hold its s 2 3).toNat (0,0,0,0)=x:=fun its1 h x=>by rw[aN,if_pos ⟨rfl,by omega⟩]
  rw[af]
  by_cases q2:o<0
  ·rw[if_neg (by omega),if_pos q2]
   simp only[Option.bind_some,Sum.elim_inl,List.set_set,fin its rfl]
  ·have go:∀x:ak,(its.set o.toNat x).getD o.toNat (0,0,0,0)=x:=fun x=>by rw[aN,if_pos ⟨rfl,by omega⟩]
   have r1:ae o its.length=true:=ao (by omega)
   rw[if_pos (by omega),if_neg q2]
   simp only[List.length_set,r1,cond_true,Option.bind_some,Sum.elim_inl,List.set_set,go];rw[fin (its.set o.toNat _) (by rw[List.length_set])]
theorem uI(hc:CB c)(hl:c.length=384)(x y:Int):f95 c x y=some (dp c x y,()):=by
 unfold f95 f77 f41 dp bB;simp only[af];have out:Option.bind (some ((-1:Int),())) (fun y0=>Option.bind (if y0.1<0 then some ((0:Int),()) else if y0.1≥(c.length:Int) then some (0,()) else bif ae y0.1 c.length then some (IntKind.wrap .i64 (c.getD y0.1.toNat 0),()) else none) fun y1=>some (y1.1,()))=some (0,()):=rfl
 by_cases h1:x<0
 ·rw[if_pos h1,if_neg (by omega)];exact out
 ·by_cases h2:x≥24
  ·rw[if_neg h1,if_pos h2,if_neg (by omega)];exact out
  ·by_cases h3:y<0
   ·rw[if_neg h1,if_neg h2,if_pos h3,if_neg (by omega)];exact out
   ·by_cases h4:y≥16
    ·rw[if_neg h1,if_neg h2,if_neg h3,if_pos h4,if_neg (by omega)];exact out
    ·rw[if_neg h1,if_neg h2,if_neg h3,if_neg h4,if_pos (by omega)]
     simp only[Option.bind_some];rw[wr (x:=y*24) (by omega),wr (x:=y*24+x) (by omega),if_neg (by omega),if_neg (by omega),ao (by omega),cond_true]
     simp only[Option.bind_some];have b:=hc (y*24+x).toNat;rw[wr (by omega)]
     rfl
theorem DV{its:List ak}(hi:eV its)(hS:FW its)(k:Int):f189_1 its k=some (aA its 4 k 0,k,()):=by
 have hlen:=hi.1;unfold f189_1 f189_1.L1 aA;refine(it_find (x:=(its,(its.length:Int),0,k,())) (fun i=>bN 4 k 0 (its.getD i iN)) its.length (fun i:Nat=>(its,(its.length:Int),(i:Int),k,())) (fun i=>some ((i:Int),k,())) (some (-1,k,())) (fun rec i hi'=>?_) (by omega) rfl).trans ?_
 rotate_left
 ·cases (List.range its.length).find? fun i=>bN 4 k 0 (its.getD i iN)<;>rfl
 ·dsimp only
  rw[af]
  by_cases q:i<its.length
  ·rw[if_pos (by omega),if_pos q,ao (by omega),cond_true,wr (by omega),Int.toNat_natCast]
   have hk:=hi.2 i q;have hz:=hS i q;have ef:f191 (its.getD i iN).1 (its.getD i iN).2.1 (its.getD i iN).2.2.1 (its.getD i iN).2.2.2 k=some (bN 4 k 0 (its.getD i iN),()):=by
    unfold f191 bN
    by_cases w4:(its.getD i iN).2.1=4
    ·have k1:((its.getD i iN).1 !=0)=true:=bne_iff_ne.2 (hk (by omega))
     rw[k1,cond_true,beq_iff_eq.2 w4,cond_true,hz w4];cases (its.getD i iN).2.2.1==k<;>rfl
    ·have w1:((its.getD i iN).2.1==4)=false:=beq_eq_false_iff_ne.2 w4
     rw[w1];cases (its.getD i iN).1 !=0<;>rfl
   rw[ef];simp only[Option.bind_some];cases bN 4 k 0 (its.getD i iN)<;>rfl
  ·rw[if_neg (by omega),if_neg q]
theorem Fb{its:List ak}(hi:eV its)(hS:FW its)(l:List ag)(hc:CB c)(hl:c.length=384)(g0 g1 g2 g3 s x y e0 e1 e2 e5 e6 e7 e8 e9 e10:Int)(hs:0≤s∧s<4)(hg:jg g0 g1 g2 g3) :
  f181 s e0 e1 e2 x y e5 e6 e7 e8 e9 e10 a0 a1 a2 a3 g0 g1 g2 g3 c l its =
  some (a0,a1,a2,a3,(eZ c its g0 g1 g2 g3 s x y).1,(eZ c its g0 g1 g2 g3 s x y).2.1,(eZ c its g0 g1 g2 g3 s x y).2.2.1,(eZ c its g0 g1 g2 g3 s x y).2.2.2.1,c,l,(eZ c its g0 g1 g2 g3 s x y).2.2.2.2,()):=by
 unfold f181;rw[uI c hc hl];simp only[Option.bind_some];have gb:=m5 (s:=s) hg;have is:ae s 4=true:=ao (by omega)
 have au:(dp c x y≠5∨cq g0 g1 g2 g3 s<5∨wareI its<0∨bo its s<0)→eZ c its g0 g1 g2 g3 s x y=(g0,g1,g2,g3,its):=fun h=>by unfold eZ;rw[if_pos h]
 by_cases h5:dp c x y=5
 ·rw[show (dp c x y !=5)=false by rw[h5];rfl,cond_false]
  simp only[is,cond_true];rw[af]
  by_cases h6:cq g0 g1 g2 g3 s<5
  ·rw[if_pos (show [g0,g1,g2,g3].getD s.toNat 0<5 from h6),au (.inr (.inl h6))]
  ·rw[if_neg (show ¬[g0,g1,g2,g3].getD s.toNat 0<5 from h6)]
   have e5:IntKind.wrap .i64 ([g0,g1,g2,g3].getD s.toNat 0-5)=cq g0 g1 g2 g3 s-5:=by
    unfold cq at gb ⊢;exact wr (by omega)
   unfold f181.L1;refine(it_find (x:=(s,0,a0,a1,a2,a3,g0,g1,g2,g3,c,l,its,())) (fun k:Nat=>decide (0≤aA its 4 k 0)) 3 (fun k:Nat=>(s,(k:Int),a0,a1,a2,a3,g0,g1,g2,g3,c,l,its,()))
    (fun k=>some (if bo its s<0 then (a0,a1,a2,a3,g0,g1,g2,g3,c,l,its,()) else (a0,a1,a2,a3,fQ s (cq g0 g1 g2 g3 s-5) 0 g0,fQ s (cq g0 g1 g2 g3 s-5) 1 g1,fQ s (cq g0 g1 g2 g3 s-5) 2 g2,fQ s (cq g0 g1 g2 g3 s-5) 3 g3,c,l,jd its s (aA its 4 k 0),())))
    (some (a0,a1,a2,a3,g0,g1,g2,g3,c,l,its,())) (fun rec k hk=>?_) (by omega) rfl).trans ?_
   ·dsimp only
    rw[af]
    by_cases q:k<3
    ·rw[if_pos (by omega),if_pos q,DV hi hS,wr (x:=(k:Int)+1) (by omega)]
     simp only[Option.bind_some];have ib:=dS its 4 k 0;rw[af]
     by_cases h0:aA its 4 k 0≥0
     ·have h0':0≤aA its 4 k 0:=h0
      rw[if_pos h0,if_pos (decide_eq_true h0'),wH a0 a1 a2 a3 c g0 g1 g2 g3 hi l s _ h0 (by omega)]
      simp only[Option.bind_some,is,cond_true,e5];rw[af]
      by_cases h7:bo its s<0
      ·rw[if_neg (by omega),if_pos h7]
       unfold jd;rw[if_pos h7]
      ·rw[if_pos (by omega),if_neg h7]
       rfl
     ·have h0':¬0≤aA its 4 k 0:=h0
      rw[if_neg h0,if_neg (by rw[decide_eq_false h0'];decide)]
      rfl
    ·rw[if_neg (by omega),if_neg q]
   ·unfold eZ wareI
    cases e:(List.range 3).find? fun k:Nat=>decide (0≤aA its 4 k 0) with
    | none=>rw[if_pos (.inr (.inr (.inl (by decide:(-1:Int)<0))))]
    | some k =>
     obtain⟨h1,_,_⟩:=List.find?_range_eq_some.1 e;have h1:=of_decide_eq_true h1;dsimp only
     by_cases h7:bo its s<0
     ·rw[if_pos h7,if_pos (.inr (.inr (.inr h7)))]
     ·rw[if_neg h7,if_neg (by omega)]
 ·rw[bne_iff_ne.2 h5,cond_true,au (.inl h5)]
end
end Go.Proofs.YthdgahpomhnidaaGreat.Gd
namespace Go.Proofs.YthdgahpomhnidaaGreat.Gd
open Go Mx Pc Run Field Gen GenL Fl Wd
set_option maxHeartbeats 1000000
def nO(e:ag):ag:=(e.1,e.2.1,e.2.2.1,e.2.2.2.1,e.2.2.2.2.1,min (hp e+6) (bE e),bE e,e.2.2.2.2.2.2.2.1,e.2.2.2.2.2.2.2.2.1,0,e.2.2.2.2.2.2.2.2.2.2)
abbrev DT:=Int×Int×Int×Int×List ag×List ak
def mD(l:List ag)(its:List ak)(s:Int):List ag×List ak :=
 if hold its s 1 1<0 then (l,its) else (l.set (ai l s).toNat (nO (l.getD (ai l s).toNat eN)),its.set (hold its s 1 1).toNat iN)
noncomputable def cJ(c:List Int)(l:List ag)(its:List ak)(g0 g1 g2 g3 s inp:Int):DT :=
 if ai l s<0∨s<0∨4≤s then (g0,g1,g2,g3,l,its) else
 if inp=5 then ((dB its g0 g1 g2 g3 s (ex (l.getD (ai l s).toNat eN)) (ey (l.getD (ai l s).toNat eN))).1,(dB its g0 g1 g2 g3 s (ex (l.getD (ai l s).toNat eN)) (ey (l.getD (ai l s).toNat eN))).2.1,(dB its g0 g1 g2 g3 s (ex (l.getD (ai l s).toNat eN)) (ey (l.getD (ai l s).toNat eN))).2.2.1,(dB its g0 g1 g2 g3 s (ex (l.getD (ai l s).toNat eN)) (ey (l.getD (ai l s).toNat eN))).2.2.2.1,l,(dB its g0 g1 g2 g3 s (ex (l.getD (ai l s).toNat eN)) (ey (l.getD (ai l s).toNat eN))).2.2.2.2) else
 if inp=6 then (g0,g1,g2,g3,(mD l its s).1,(mD l its s).2) else
 if inp=7 then (g0,g1,g2,g3,l,nI its s) else
 if inp=8 then (g0,g1,g2,g3,l,qM its s (ex (l.getD (ai l s).toNat eN)) (ey (l.getD (ai l s).toNat eN))) else
 if inp=10 then ((eZ c its g0 g1 g2 g3 s (ex (l.getD (ai l s).toNat eN)) (ey (l.getD (ai l s).toNat eN))).1,(eZ c its g0 g1 g2 g3 s (ex (l.getD (ai l s).toNat eN)) (ey (l.getD (ai l s).toNat eN))).2.1,(eZ c its g0 g1 g2 g3 s (ex (l.getD (ai l s).toNat eN)) (ey (l.getD (ai l s).toNat eN))).2.2.1,(eZ c its g0 g1 g2 g3 s (ex (l.getD (ai l s).toNat eN)) (ey (l.getD (ai l s).toNat eN))).2.2.2.1,l,(eZ c its g0 g1 g2 g3 s (ex (l.getD (ai l s).toNat eN)) (ey (l.getD (ai l s).toNat eN))).2.2.2.2)
 else (g0,g1,g2,g3,l,its)
def xV(l:List ag):Prop:=l.length=32∧∀i,i<32→-1000≤hp (l.getD i eN)∧hp (l.getD i eN)≤1000∧-1000≤bE (l.getD i eN)∧bE (l.getD i eN)≤1000
theorem CL{c:List Int}{its:List ak}(h:aH c its){s b:Int}(hb:0≤aA its 2 s b):1≤(its.getD (aA its 2 s b).toNat iN).1∧(its.getD (aA its 2 s b).toNat iN).1≤3:=by
 obtain⟨k,h1,e,h3,_⟩:=j7 (l:=its) (w:=2) (a:=s) (b:=b) (by omega)
 have hl:=h.len;rw[e,Int.toNat_natCast];unfold bN at h3;simp only[Bool.and_eq_true,beq_iff_eq]at h3;rcases h.kind k (by omega) with q | ⟨q1,q2,q3⟩
 ·rw[q]at h3;exact absurd h3.1 (by decide)
 ·unfold cQ at q3
  omega
section
variable (a0 a1 a2 a3:Int) (c:List Int)
theorem GH(hcb:CB c)(hcl:c.length=384){l:List ag}(hl:xV l){its:List ak}(hI:aH c its){g0 g1 g2 g3:Int}(hg:jg g0 g1 g2 g3)(s inp:Int) :
  f159 a0 a1 a2 a3 c l its g0 g1 g2 g3 s inp=some (a0,a1,a2,a3,(cJ c l its g0 g1 g2 g3 s inp).1,(cJ c l its g0 g1 g2 g3 s inp).2.1,(cJ c l its g0 g1 g2 g3 s inp).2.2.1,(cJ c l its g0 g1 g2 g3 s inp).2.2.2.1,c,(cJ c l its g0 g1 g2 g3 s inp).2.2.2.2.1,(cJ c l its g0 g1 g2 g3 s inp).2.2.2.2.2,()):=by
 have hi:=iJ hI;have hS:=DK hI;have hil:=hI.len;have hll:=hl.1;unfold f159 cJ;rw[pR a0 a1 a2 a3 c g0 g1 g2 g3 (by omega) (by omega) (by omega)]
 simp only[Option.bind_some];rw[gY l hll];simp only[Option.bind_some];rw[af]
 by_cases q1:ai l s<0
 ·rw[if_pos q1,if_pos (.inl q1)]
 rw[if_neg q1,af]
 by_cases q2:s<0
 ·rw[if_pos q2,if_pos (.inr (.inl q2))]
 rw[if_neg q2,af]
 by_cases q3:s≥4
 ·rw[if_pos q3,if_pos (.inr (.inr q3))]
 have hb:-1≤ai l s∧ai l s<(l.length:Int):=qD;have rh:ae (ai l s) l.length=true:=ao (by omega)
 rw[if_neg q3,if_neg (by omega)]
 simp only[rh,cond_true];have hhp:=hl.2 (ai l s).toNat (by omega)
 have e0:l.getD (ai l s).toNat Run.zE=l.getD (ai l s).toNat eN:=rfl;simp only[e0]
 by_cases i5:inp=5
 ·rw[if_pos i5,beq_iff_eq.2 i5,cond_true,EV a0 a1 a2 a3 c hi l g0 g1 g2 g3 s _ _ _ _ _ _ _ _ _ _ _ (by omega) hg]
  rfl
 rw[if_neg i5,beq_eq_false_iff_ne.2 i5,cond_false]
 by_cases i6:inp=6
 ·rw[if_pos i6,beq_iff_eq.2 i6,cond_true,mE a0 a1 a2 a3 c g0 g1 g2 g3 hi s 1 1 [1] (by decide) (fun b hb h=>by
   rw[Bool.eq_iff_iff];simp only[List.mem_cons,List.not_mem_nil,or_false,decide_eq_true_eq,Bool.and_eq_true];omega)]
  simp only[Option.bind_some];have hb:=lj (its:=its) (s:=s) (lo:=1) (hi:=1);unfold mD;rw[af]
  by_cases q4:hold its s 1 1<0
  ·rw[if_neg (by omega),if_pos q4]
   rfl
  ·have gs:∀x:ag,(l.set (ai l s).toNat x).getD (ai l s).toNat Run.zE=x:=fun x=>by rw[aN,if_pos ⟨rfl,by omega⟩]
   have w6:IntKind.wrap .i64 (hp (l.getD (ai l s).toNat eN)+6)=hp (l.getD (ai l s).toNat eN)+6:=wr (by omega)
   have e6:aX (IntKind.wrap .i64 ((l.getD (ai l s).toNat eN).2.2.2.2.2.1+6)) (l.getD (ai l s).toNat eN).2.2.2.2.2.2.1=min (hp (l.getD (ai l s).toNat eN)+6) (bE (l.getD (ai l s).toNat eN)):=by
    rw[show (l.getD (ai l s).toNat eN).2.2.2.2.2.1=hp (l.getD (ai l s).toNat eN) from rfl,w6,br]
    rfl
   rw[if_pos (by omega),if_neg q4,ao (by omega),cond_true]
   simp only[List.set_set,gs,e6,Option.bind_some,Sum.elim_inl];rfl
 rw[if_neg i6,beq_eq_false_iff_ne.2 i6,cond_false]
 by_cases i7:inp=7
 ·rw[if_pos i7,beq_iff_eq.2 i7,cond_true,ED a0 a1 a2 a3 c g0 g1 g2 g3 hi l s]
  rfl
 rw[if_neg i7,beq_eq_false_iff_ne.2 i7,cond_false]
 by_cases i8:inp=8
 ·rw[if_pos i8,beq_iff_eq.2 i8,cond_true,mE a0 a1 a2 a3 c g0 g1 g2 g3 hi s 1 3 [1,2,3,4] (by decide) (fun b hb h=>by
   have:=CL hI h;rw[Bool.eq_iff_iff];simp only[List.mem_cons,List.not_mem_nil,or_false,decide_eq_true_eq,Bool.and_eq_true];omega)]
  simp only[Option.bind_some];have hb:=lj (its:=its) (s:=s) (lo:=1) (hi:=3);unfold qM;rw[af]
  by_cases q4:hold its s 1 3≥0
  ·rw[if_pos q4,find_eq a0 a1 a2 a3 c g0 g1 g2 g3 hi 1 _ _ (by decide)]
   simp only[Option.bind_some,Sum.elim_inl];rw[af]
   by_cases q5:aA its 1 (l.getD (ai l s).toNat eN).2.2.2.1 (l.getD (ai l s).toNat eN).2.2.2.2.1<0
   ·have gs:∀x:ak,(its.set (hold its s 1 3).toNat x).getD (hold its s 1 3).toNat (0,0,0,0)=x:=fun x=>by rw[aN,if_pos ⟨rfl,by omega⟩]
    rw[if_pos q5,ao (by omega),cond_true,if_pos ⟨q4,q5⟩]
    simp only[List.set_set,gs,Option.bind_some,Sum.elim_inl];rfl
   ·rw[if_neg q5,if_neg (fun z=>q5 z.2)]
    rfl
  ·rw[if_neg q4,if_neg (fun z=>q4 z.1)]
   rfl
 rw[if_neg i8,beq_eq_false_iff_ne.2 i8,cond_false]
 by_cases i10:inp=10
 ·rw[if_pos i10,beq_iff_eq.2 i10,cond_true,Fb a0 a1 a2 a3 c hi hS l hcb hcl g0 g1 g2 g3 s _ _ _ _ _ _ _ _ _ _ _ (by omega) hg]
  rfl
 rw[if_neg i10,beq_eq_false_iff_ne.2 i10,cond_false];rfl
end
end Go.Proofs.YthdgahpomhnidaaGreat.Gd
namespace Go.Proofs.YthdgahpomhnidaaGreat.Gd
open Go Mx Pc Run Field Gen GenL Fl Wd
set_option maxHeartbeats 1000000
theorem uJ(its:List ak):wareI its=if 0≤aA its 4 0 0 then aA its 4 0 0 else if 0≤aA its 4 1 0 then aA its 4 1 0 else if 0≤aA its 4 2 0 then aA its 4 2 0 else -1:=by
 unfold wareI;rw[show List.range 3=[0,1,2] from rfl]
 simp only[List.find?_cons,List.find?_nil,show ((0:Nat):Int)=0 from rfl,show ((1:Nat):Int)=1 from rfl,show ((2:Nat):Int)=2 from rfl]
 by_cases h0:0≤aA its 4 0 0
 ·simp[h0]
 ·by_cases h1:0≤aA its 4 1 0
  ·simp[h0,h1]
  ·by_cases h2:0≤aA its 4 2 0
   ·simp[h0,h1,h2]
   ·simp[h0,h1,h2]
theorem EF(its:List ak):-1≤wareI its∧wareI its<its.length:=by
 rw[uJ];have h0:=dS its 4 0 0;have h1:=dS its 4 1 0;have h2:=dS its 4 2 0;split
 ·exact h0
 ·split
  ·exact h1
  ·split
   ·exact h2
   ·omega
section
variable (a0 a1 a2 a3:Int) (c:List Int)
theorem zH{its:List ak}(hl:its.length≤1000)(l:List ag)(s fr g0 g1 g2 g3 z0 z1 z2 z3 z4 z5 z6 z7 e0 e1 e2 e3 e4 e5 e6 e7 e8 e9 e10:Int) :
  f87.L1 (s,fr,-1,0,a0,a1,a2,a3,g0,g1,g2,g3,z0,z1,z2,z3,z4,z5,z6,z7,e0,e1,e2,e3,e4,e5,e6,e7,e8,e9,e10,its,c,l,()) =
  some (Sum.inl (s,fr,wareI its,a0,a1,a2,a3,g0,g1,g2,g3,z0,z1,z2,z3,z4,z5,z6,z7,e0,e1,e2,e3,e4,e5,e6,e7,e8,e9,e10,its,c,l,())):=by
 have h0:=dS its 4 0 0;have h1:=dS its 4 1 0;have h2:=dS its 4 2 0;have w1:IntKind.wrap .i64 (0+1)=1:=by decide
 have w2:IntKind.wrap .i64 (1+1)=2:=by decide
 have w3:IntKind.wrap .i64 (2+1)=3:=by decide
 rw[uJ];unfold f87.L1;rw[mZ (by decide)]
 dsimp only;rw[decide_eq_true (show (0:Int)<3 by decide),cond_true,decide_eq_true (show (-1:Int)<0 by decide),cond_true,fy its (by omega)]
 simp only[Option.bind_some];rw[w1,mZ (by decide)]
 dsimp only;rw[decide_eq_true (show (1:Int)<3 by decide),cond_true,af]
 by_cases q0:aA its 4 0 0<0
 ·rw[if_pos q0,if_neg (by omega),fy its (by omega)]
  simp only[Option.bind_some];rw[w2,mZ (by decide)]
  dsimp only;rw[decide_eq_true (show (2:Int)<3 by decide),cond_true,af]
  by_cases q1:aA its 4 1 0<0
  ·rw[if_pos q1,if_neg (by omega),fy its (by omega)]
   simp only[Option.bind_some];rw[w3,mZ (by decide)]
   dsimp only;rw[decide_eq_false (show ¬(3:Int)<3 by decide),cond_false]
   by_cases q2:aA its 4 2 0<0
   ·rw[if_neg (by omega),show aA its 4 2 0=-1 by omega]
   ·rw[if_pos (by omega)]
  ·rw[if_neg q1,if_pos (by omega)]
 ·rw[if_neg q0,if_pos (by omega)]
theorem Fz(hcb:CB c)(hcl:c.length=384){l:List ag}(hl:xV l){its:List ak}(hI:aH c its){g0 g1 g2 g3:Int}(hg:jg g0 g1 g2 g3)(s inp:Int) :
  f87 a0 a1 a2 a3 c l its g0 g1 g2 g3 s inp=some (a0,a1,a2,a3,(cJ c l its g0 g1 g2 g3 s inp).1,(cJ c l its g0 g1 g2 g3 s inp).2.1,(cJ c l its g0 g1 g2 g3 s inp).2.2.1,(cJ c l its g0 g1 g2 g3 s inp).2.2.2.1,c,(cJ c l its g0 g1 g2 g3 s inp).2.2.2.2.1,(cJ c l its g0 g1 g2 g3 s inp).2.2.2.2.2,()):=by
 have hi:=iJ hI;have hil:=hI.len;have hll:=hl.1;unfold f87 cJ;rw[fj a0 a1 a2 a3 c g0 g1 g2 g3 (by omega) (by omega) (by omega)]
 simp only[Option.bind_some];rw[ga l (by omega)]
 simp only[Option.bind_some];rw[af]
 by_cases q1:ai l s<0
 ·rw[if_pos q1,if_pos (.inl q1)]
 rw[if_neg q1,af]
 by_cases q2:s<0
 ·rw[if_pos q2,if_pos (.inr (.inl q2))]
 rw[if_neg q2,af]
 by_cases q3:s≥4
 ·rw[if_pos q3,if_pos (.inr (.inr q3))]
 have hb:-1≤ai l s∧ai l s<(l.length:Int):=qD;have rh:ae (ai l s) l.length=true:=ao (by omega)
 rw[if_neg q3,if_neg (by omega)]
 simp only[rh,cond_true];have hhp:=hl.2 (ai l s).toNat (by omega)
 have e0:l.getD (ai l s).toNat Run.zE=l.getD (ai l s).toNat eN:=rfl;have is:ae s 4=true:=ao (by omega)
 have gb:=m5 (s:=s) hg;simp only[e0];rw[fy its (by omega)]
 simp only[Option.bind_some];rw[o9 its (by omega)]
 simp only[Option.bind_some];have gs:∀(n:Int),0≤n→n<its.length→∀x:ak,(its.set n.toNat x).getD n.toNat (0,0,0,0)=x:=fun n h0 h1 x=>by rw[aN,if_pos ⟨rfl,by omega⟩]
 by_cases i5:inp=5
 ·rw[if_pos i5,beq_iff_eq.2 i5,cond_true]
  unfold dB;have ib:=dS its 1 (ex (l.getD (ai l s).toNat eN)) (ey (l.getD (ai l s).toNat eN));have e1:aA its 1 (l.getD (ai l s).toNat eN).2.2.2.1 (l.getD (ai l s).toNat eN).2.2.2.2.1=aA its 1 (ex (l.getD (ai l s).toNat eN)) (ey (l.getD (ai l s).toNat eN)):=rfl;rw[e1];generalize aA its 1 (ex (l.getD (ai l s).toNat eN)) (ey (l.getD (ai l s).toNat eN))=n at *
  rw[af]
  by_cases q:n<0
  ·rw[if_neg (by omega),if_pos q]
   simp only[Option.bind_some,Sum.elim_inl,cond_false];rw[decide_eq_false (by omega),cond_false]
   rfl
  ·have ir:ae n its.length=true:=ao (by omega)
   rw[if_pos (by omega),if_neg q]
   simp only[ir,cond_true,Option.bind_some,Sum.elim_inl,is]
   by_cases k:(its.getD n.toNat iN).1=4
   ·have e:aX (IntKind.wrap .i64 ([g0,g1,g2,g3].getD s.toNat 0+5)) 999=min (cq g0 g1 g2 g3 s+5) 999:=by
     unfold cq at gb ⊢;rw[wr (by omega),br]
    rw[if_pos k,beq_iff_eq.2 k,cond_true];simp only[e];rfl
   ·rw[if_neg k,beq_eq_false_iff_ne.2 k,cond_false,decide_eq_true (by omega),cond_true,af]
    unfold jd
    by_cases q6:bo its s<0
    ·rw[if_neg (by omega),if_pos q6]
     rfl
    ·rw[if_pos (by omega),if_neg q6]
     simp only[List.length_set,ir,cond_true,List.set_set,gs n (by omega) (by omega),Option.bind_some,Sum.elim_inl]
     rfl
 rw[if_neg i5,beq_eq_false_iff_ne.2 i5,cond_false]
 by_cases i6:inp=6
 ·rw[if_pos i6,beq_iff_eq.2 i6,cond_true,lV its (by omega)]
  simp only[Option.bind_some];have hb:=lj (its:=its) (s:=s) (lo:=1) (hi:=1);unfold mD;rw[af]
  by_cases q4:hold its s 1 1<0
  ·rw[if_neg (by omega),if_pos q4]
   rfl
  ·have ge:∀x:ag,(l.set (ai l s).toNat x).getD (ai l s).toNat Run.zE=x:=fun x=>by rw[aN,if_pos ⟨rfl,by omega⟩]
   have w6:IntKind.wrap .i64 (hp (l.getD (ai l s).toNat eN)+6)=hp (l.getD (ai l s).toNat eN)+6:=wr (by omega)
   have e6:aX (IntKind.wrap .i64 ((l.getD (ai l s).toNat eN).2.2.2.2.2.1+6)) (l.getD (ai l s).toNat eN).2.2.2.2.2.2.1=min (hp (l.getD (ai l s).toNat eN)+6) (bE (l.getD (ai l s).toNat eN)):=by
    rw[show (l.getD (ai l s).toNat eN).2.2.2.2.2.1=hp (l.getD (ai l s).toNat eN) from rfl,w6,br]
    rfl
   rw[if_pos (by omega),if_neg q4,ao (by omega),cond_true]
   simp only[rh,List.length_set,cond_true,List.set_set,ge,e6,Option.bind_some,Sum.elim_inl];rfl
 rw[if_neg i6,beq_eq_false_iff_ne.2 i6,cond_false]
 by_cases i7:inp=7
 ·rw[if_pos i7,beq_iff_eq.2 i7,cond_true,lA its (by omega)]
  simp only[Option.bind_some];unfold nI;have hb:=lj (its:=its) (s:=s) (lo:=2) (hi:=3);rw[af]
  by_cases q:hold its s 2 3<0
  ·rw[if_neg (by omega),if_pos q]
   rfl
  ·have hk:=m6 (its:=its) (s:=s) (lo:=2) (hi:=3) (by omega)
   have rI:ae (hold its s 2 3) its.length=true:=ao (by omega)
   have e2:IntKind.wrap .i64 ((its.getD (hold its s 2 3).toNat (0,0,0,0)).1-2)=(its.getD (hold its s 2 3).toNat iN).1-2:=wr (x:=(its.getD (hold its s 2 3).toNat iN).1-2) (by omega)
   rw[if_pos (by omega),if_neg q]
   simp only[rI,cond_true,e2];rw[fy its (by omega)]
   simp only[Option.bind_some];unfold nQ;have ib:=dS its 3 s ((its.getD (hold its s 2 3).toNat iN).1-2);generalize aA its 3 s ((its.getD (hold its s 2 3).toNat iN).1-2)=o at *
   have fin:∀its1:List ak,its1.length=its.length→∀x:ak,(its1.set (hold its s 2 3).toNat x).getD (hold its s 2 3).toNat (0,0,0,0)=x:=fun its1 h x=>by rw[aN,if_pos ⟨rfl,by omega⟩]
   rw[af]
   by_cases q2:o<0
   ·rw[if_neg (by omega),if_pos q2]
    simp only[Option.bind_some,Sum.elim_inl,rI,List.length_set,cond_true,List.set_set,fin its rfl]
   ·have r1:ae o its.length=true:=ao (by omega)
    rw[if_pos (by omega),if_neg q2]
    simp only[List.length_set,r1,rI,cond_true,Option.bind_some,Sum.elim_inl,List.set_set,gs o (by omega) (by omega)]
    rw[fin (its.set o.toNat _) (by rw[List.length_set])]
 rw[if_neg i7,beq_eq_false_iff_ne.2 i7,cond_false]
 by_cases i8:inp=8
 ·rw[if_pos i8,beq_iff_eq.2 i8,cond_true,lA its (by omega)]
  simp only[Option.bind_some];have hb:=lj (its:=its) (s:=s) (lo:=1) (hi:=3);unfold qM;rw[af]
  by_cases q4:hold its s 1 3≥0
  ·have rI:ae (hold its s 1 3) its.length=true:=ao (by omega)
   rw[if_pos q4,af]
   by_cases q5:aA its 1 (l.getD (ai l s).toNat eN).2.2.2.1 (l.getD (ai l s).toNat eN).2.2.2.2.1<0
   ·rw[if_pos q5,if_pos ⟨q4,q5⟩]
    simp only[List.length_set,rI,cond_true,List.set_set,gs (hold its s 1 3) (by omega) (by omega),Option.bind_some,Sum.elim_inl]
    rfl
   ·rw[if_neg q5,if_neg (fun z=>q5 z.2)]
    rfl
  ·rw[if_neg q4,if_neg (fun z=>q4 z.1)]
   rfl
 rw[if_neg i8,beq_eq_false_iff_ne.2 i8,cond_false]
 by_cases i10:inp=10
 ·rw[if_pos i10,beq_iff_eq.2 i10,cond_true,zH a0 a1 a2 a3 c (by omega)]
  simp only[Option.bind_some,Sum.elim_inl];rw[qn c hcb];simp only[Option.bind_some];have wb:=EF its;have eat:(open Classical in if bB (l.getD (ai l s).toNat eN).2.2.2.1 (l.getD (ai l s).toNat eN).2.2.2.2.1 then Field.rd c (cd (l.getD (ai l s).toNat eN).2.2.2.1 (l.getD (ai l s).toNat eN).2.2.2.2.1) else 0)=dp c (ex (l.getD (ai l s).toNat eN)) (ey (l.getD (ai l s).toNat eN)):=rfl
  rw[eat];unfold eZ
  by_cases h5:dp c (ex (l.getD (ai l s).toNat eN)) (ey (l.getD (ai l s).toNat eN))=5
  ·rw[beq_iff_eq.2 h5,cond_true]
   simp only[is,cond_true];rw[af]
   by_cases h6:cq g0 g1 g2 g3 s<5
   ·rw[if_neg (show ¬[g0,g1,g2,g3].getD s.toNat 0≥5 by unfold cq at h6;omega),if_pos (.inr (.inl h6))]
    rfl
   ·rw[if_pos (show [g0,g1,g2,g3].getD s.toNat 0≥5 by unfold cq at h6;omega),af]
    by_cases h7:bo its s<0
    ·rw[if_neg (by omega),if_pos (.inr (.inr (.inr h7)))]
     rfl
    ·rw[if_pos (by omega)]
     simp only[Option.bind_some,Sum.elim_inl];rw[af]
     by_cases h8:wareI its<0
     ·rw[if_neg (by omega),if_pos (.inr (.inr (.inl h8)))]
      rfl
     ·have rW:ae (wareI its) its.length=true:=ao (by omega)
      have e5:IntKind.wrap .i64 ([g0,g1,g2,g3].getD s.toNat 0-5)=cq g0 g1 g2 g3 s-5:=by
       unfold cq at gb ⊢;exact wr (by omega)
      have hn:¬(dp c (ex (l.getD (ai l s).toNat eN)) (ey (l.getD (ai l s).toNat eN))≠5∨cq g0 g1 g2 g3 s<5∨wareI its<0∨bo its s<0):=fun z=>by
       rcases z with z | z | z | z
       ·exact z h5
       ·exact h6 z
       ·exact h8 z
       ·exact h7 z
      rw[if_pos (by omega),if_neg hn]
      simp only[List.length_set,rW,is,cond_true,List.set_set,gs (wareI its) (by omega) (by omega),Option.bind_some,Sum.elim_inl,e5]
      unfold jd;rw[if_neg h7];rfl
  ·rw[beq_eq_false_iff_ne.2 h5,cond_false,if_pos (.inl h5)]
   rfl
 rw[if_neg i10,beq_eq_false_iff_ne.2 i10,cond_false];rfl
end
end Go.Proofs.YthdgahpomhnidaaGreat.Gd
namespace Go.Proofs.YthdgahpomhnidaaGreat.Gd
open Go Mx Pc Run Field Gen GenL Fl Wd
set_option maxHeartbeats 1000000
theorem um{w a b:Int}{x:ak}:bN w a b x=true↔x.2=(w,a,b):=by
 unfold bN;simp only[Bool.and_eq_true,beq_iff_eq];constructor
 ·rintro ⟨h1,h2,h3⟩
  exact Prod.ext h1 (Prod.ext h2 h3)
 ·intro h
  rw[h];exact⟨rfl,rfl,rfl⟩
theorem CH{w a b:Int}{x:ak}(h:bN w a b x=false):x.2≠(w,a,b):=fun z=>by
 rw[um.2 z]at h;cases h
theorem p5{c:List Int}{its:List ak}(h:aH c its){w a b:Int}(hw:w≠0)(h0:0≤aA its w a b):∃k:Nat,k<40∧aA its w a b=k∧(its.getD k iN).2=(w,a,b)∧its.getD k iN≠iN∧1≤(its.getD k iN).1∧(its.getD k iN).1≤4∧cQ c (its.getD k iN):=by
 obtain⟨k,h1,e,h3,_⟩:=j7 (l:=its) (w:=w) (a:=a) (b:=b) (by omega)
 have hl:=h.len;have e3:=um.1 h3;have ne:its.getD k iN≠iN:=fun z=>by
  rw[z]at e3;exact hw (congrArg Prod.fst e3).symm
 rcases h.kind k (by omega) with q | ⟨q1,q2,q3⟩
 ·exact absurd q ne
 ·exact⟨k,by omega,e,e3,ne,q1,q2,q3⟩
theorem rR{c:List Int}{its:List ak}(h:aH c its){w a b:Int}(h0:aA its w a b<0):∀i,i<40→(its.getD i iN).2≠(w,a,b):=fun i hi=>CH (pD.1 h0 i (by have:=h.len;omega))
theorem yh{its:List ak}{s:Int}(h:0≤bo its s):∃b:Nat,b<4∧bo its s=b∧aA its 2 s b<0∧∀j:Nat,j<b→0≤aA its 2 s j:=by
 obtain⟨b,h1,h2,h3,h4⟩:=dX (p:=fun b:Nat=>decide (aA its 2 s b<0)) (n:=4) (by unfold bo at h;omega)
 refine⟨b,h1,h2,of_decide_eq_true h3,fun j hj=>?_⟩
 have:=of_decide_eq_false (h4 j hj);omega
theorem xI{c:List Int}{its:List ak}(h:aH c its){s:Int}(hs:0≤s∧s<4){n:Nat}(hn:n<40)(hk:1≤(its.getD n iN).1∧(its.getD n iN).1≤3):aH c (jd its s n):=by
 unfold jd;split
 ·exact h
 ·rename_i q
  obtain⟨b,hb,e,hf,_⟩:=yh (its:=its) (s:=s) (by omega)
  rw[e,Int.toNat_natCast];refine h.put hn ⟨hk.1,by show (its.getD n iN).1≤4;omega⟩ (.inr (.inl ⟨rfl,hs.1,hs.2,?_,?_,?_⟩)) (fun i hi _=>rR h hf i hi)
  ·show (0:Int)≤(b:Int);omega
  ·show (b:Int)<4;omega
  ·show (its.getD n iN).1≠4;omega
theorem xB{s v g0 g1 g2 g3:Int}(h:jg g0 g1 g2 g3)(hv:0≤v∧v≤999):jg (fQ s v 0 g0) (fQ s v 1 g1) (fQ s v 2 g2) (fQ s v 3 g3):=by
 unfold jg at h ⊢;unfold fQ;refine⟨?_,?_,?_,?_⟩<;>split<;>first | exact hv | exact h.1 | exact h.2.1 | exact h.2.2.1 | exact h.2.2.2
structure WI (c:List Int) (l:List ag) (its:List ak) (g0 g1 g2 g3:Int):Prop where
 hp:xV l
 its:aH c its
 gQ:jg g0 g1 g2 g3
 pos:∀i,i<32→kd (l.getD i eN)=1→0≤ex (l.getD i eN)∧ex (l.getD i eN)<24∧0≤ey (l.getD i eN)∧ey (l.getD i eN)<16∧c.getD (ey (l.getD i eN)*24+ex (l.getD i eN)).toNat 0≠0
theorem nN{c:List Int}{its:List ak}{g0 g1 g2 g3:Int}(h:aH c its)(hg:jg g0 g1 g2 g3){s x y:Int}(hs:0≤s∧s<4):jg (dB its g0 g1 g2 g3 s x y).1 (dB its g0 g1 g2 g3 s x y).2.1 (dB its g0 g1 g2 g3 s x y).2.2.1 (dB its g0 g1 g2 g3 s x y).2.2.2.1∧aH c (dB its g0 g1 g2 g3 s x y).2.2.2.2:=by
 unfold dB;split
 ·exact⟨hg,h⟩
 ·rename_i q
  obtain⟨k,hk,e,_,_,k1,k4,_⟩:=p5 h (w:=1) (a:=x) (b:=y) (by decide) (by omega)
  rw[e,Int.toNat_natCast];split
  ·have:=m5 (s:=s) hg
   exact⟨xB hg (by omega),h.drop k⟩
  ·rename_i q4
   exact⟨hg,xI h hs hk (by omega)⟩
theorem wY{c:List Int}{its:List ak}(h:aH c its){s lo hi:Int}(h0:0≤hold its s lo hi):∃(k b:Nat),k<40∧b<4∧hold its s lo hi=k∧(its.getD k iN).2=(2,s,(b:Int))∧its.getD k iN≠iN∧lo≤(its.getD k iN).1∧(its.getD k iN).1≤hi∧1≤(its.getD k iN).1∧(its.getD k iN).1≤4∧cQ c (its.getD k iN):=by
 have hk:=m6 h0;obtain⟨b,hb,e,_,_⟩:=sV h0;rw[e]at h0;obtain⟨k,h1,h2,h3,h4,h5,h6,h7⟩:=p5 h (w:=2) (a:=s) (b:=b) (by decide) h0
 rw[e,h2,Int.toNat_natCast]at hk;exact⟨k,b,h1,hb,e.trans h2,h3,h4,hk.1,hk.2,h5,h6,h7⟩
theorem Eg{c:List Int}{its:List ak}(h:aH c its){s:Int}:aH c (nI its s):=by
 unfold nI;split
 ·exact h
 ·rename_i q
  obtain⟨k,b,hk,hb,e,e2,ne,l1,l2,_,_,hP⟩:=wY h (s:=s) (lo:=2) (hi:=3) (by omega)
  have hl:=h.len;rw[e,Int.toNat_natCast];have p2:(its.getD k iN).2.1=2:=congrArg Prod.fst e2;have ps:(its.getD k iN).2.2.1=s:=congrArg (fun z=>z.2.1) e2
  have pb:(its.getD k iN).2.2.2=b:=congrArg (fun z=>z.2.2) e2
  have hs:0≤s∧s<4:=by
   rw[←ps];unfold cQ at hP;omega
  unfold nQ;rw[Int.toNat_natCast];have hd:=h.drop k;have gd:∀i,(its.set k iN).getD i iN=if k=i then iN else its.getD i iN:=fun i=>by
   rw[aN]
   by_cases z:k=i
   ·rw[if_pos ⟨z,by omega⟩,if_pos z]
   ·rw[if_neg (fun y=>z y.1),if_neg z]
  have kk:cQ c ((its.getD k iN).1,3,s,(its.getD k iN).1-2):=by
   refine .inr (.inr (.inl ⟨rfl,hs.1,hs.2,?_⟩));show ((its.getD k iN).1=2∧(its.getD k iN).1-2=0)∨((its.getD k iN).1=3∧(its.getD k iN).1-2=1);omega
  split
  ·rename_i q2
   have:=hd.put (n:=k) (x:=((its.getD k iN).1,3,s,(its.getD k iN).1-2)) hk ⟨by show 1≤(its.getD k iN).1;omega,by show (its.getD k iN).1≤4;omega⟩ kk (fun i hi hne=>by
    rw[gd,if_neg (fun z=>hne z.symm)]
    exact rR h q2 i hi)
   rw[List.set_set]at this;rw[ps];exact this
  ·rename_i q2
   obtain⟨o,ho,eo,eo2,neo,o1,o4,hPo⟩:=p5 h (w:=3) (a:=s) (b:=(its.getD k iN).1-2) (by decide) (by omega)
   have oa:(its.getD o iN).2.2.1=s:=congrArg (fun z=>z.2.1) eo2
   have nko:k≠o:=fun z=>by
    rw[z,eo2]at p2;exact absurd p2 (by show ¬(3:Int)=2;decide)
   have ok4:(its.getD o iN).1≠4:=by
    have w3:(its.getD o iN).2.1=3:=congrArg Prod.fst eo2;unfold cQ at hPo;omega
   rw[eo,Int.toNat_natCast,oa,pb];have h1:=hd.put (n:=o) (x:=((its.getD o iN).1,2,s,(b:Int))) ho ⟨o1,o4⟩ (.inr (.inl ⟨rfl,hs.1,hs.2,by show (0:Int)≤b;omega,by show (b:Int)<4;omega,ok4⟩)) (fun i hi hne=>by
    rw[gd];split
    ·exact fun z=>absurd (congrArg Prod.fst z) (by show (0:Int)≠2;decide)
    ·rename_i z
     intro y;exact z (h.one k i hk hi ne (e2.trans y.symm)))
   have h2:=h1.put (n:=k) (x:=((its.getD k iN).1,3,s,(its.getD k iN).1-2)) hk ⟨by show 1≤(its.getD k iN).1;omega,by show (its.getD k iN).1≤4;omega⟩ kk (fun i hi hne=>by
    rw[aN];split
    ·exact fun z=>absurd (congrArg Prod.fst z) (by show (2:Int)≠3;decide)
    ·rename_i z
     rw[gd,if_neg (fun y=>hne y.symm)]
     intro y;have:=h.one o i ho hi neo (eo2.trans y.symm);exact z ⟨this,by rw[List.length_set];omega⟩)
   rw[List.set_comm _ _ (fun z=>nko z),List.set_set]at h2
   have ge:((its.set o ((its.getD o iN).1,2,s,(b:Int))).getD k iN)=its.getD k iN:=by
    rw[aN,if_neg (fun z=>nko z.1.symm)]
   rw[ge,ps];exact h2
theorem Eh{c:List Int}{its:List ak}(h:aH c its){s x y:Int}(hx:0≤x∧x<24∧0≤y∧y<16∧c.getD (y*24+x).toNat 0≠0):aH c (qM its s x y):=by
 unfold qM;split
 ·rename_i q
  obtain⟨k,b,hk,_,e,_,_,l1,l2,k1,k4,_⟩:=wY h q.1;rw[e,Int.toNat_natCast];exact h.put hk ⟨k1,k4⟩ (.inl ⟨rfl,hx⟩) (fun i hi _=>rR h q.2 i hi)
 ·exact h
theorem Dy{its:List ak}(h:0≤wareI its):∃k:Nat,k<3∧wareI its=aA its 4 k 0:=by
 unfold wareI at h ⊢;split at h
 ·rename_i k e
  obtain⟨h1,h2,_⟩:=List.find?_range_eq_some.1 e;exact⟨k,List.mem_range.1 h2,rfl⟩
 ·omega
theorem Gl{c:List Int}{its:List ak}{g0 g1 g2 g3:Int}(h:aH c its)(hg:jg g0 g1 g2 g3){s x y:Int}(hs:0≤s∧s<4):jg (eZ c its g0 g1 g2 g3 s x y).1 (eZ c its g0 g1 g2 g3 s x y).2.1 (eZ c its g0 g1 g2 g3 s x y).2.2.1 (eZ c its g0 g1 g2 g3 s x y).2.2.2.1∧aH c (eZ c its g0 g1 g2 g3 s x y).2.2.2.2:=by
 unfold eZ;split
 ·exact⟨hg,h⟩
 ·rename_i q
  have q3:0≤wareI its:=Int.not_lt.1 fun z=>q (.inr (.inr (.inl z)))
  have q2:5≤cq g0 g1 g2 g3 s:=Int.not_lt.1 fun z=>q (.inr (.inl z))
  obtain⟨m,_,em⟩:=Dy q3;rw[em]at q3;obtain⟨k,hk,e,e2,_,k1,k4,hP⟩:=p5 h (w:=4) (a:=m) (b:=0) (by decide) q3
  have w4:(its.getD k iN).2.1=4:=congrArg Prod.fst e2;have n4:(its.getD k iN).1≠4:=by
   unfold cQ at hP;omega
  have:=m5 (s:=s) hg;rw[em,e];exact⟨xB hg (by omega),xI h hs hk (by omega)⟩
theorem GP{c:List Int}{l:List ag}{its:List ak}{g0 g1 g2 g3:Int}(h:WI c l its g0 g1 g2 g3)(s inp:Int) :
  WI c (cJ c l its g0 g1 g2 g3 s inp).2.2.2.2.1 (cJ c l its g0 g1 g2 g3 s inp).2.2.2.2.2 (cJ c l its g0 g1 g2 g3 s inp).1 (cJ c l its g0 g1 g2 g3 s inp).2.1 (cJ c l its g0 g1 g2 g3 s inp).2.2.1 (cJ c l its g0 g1 g2 g3 s inp).2.2.2.1:=by
 unfold cJ;split
 ·exact h
 ·rename_i q
  have hs:0≤s∧s<4:=by omega
  have hl:=h.hp.1;obtain⟨k,hk,ek,hh,_⟩:=dX (p:=fun i=>bC s (l.getD i eN)) (n:=l.length) (fun z=>q (.inl z))
  have ek:ai l s=k:=ek;have hh:bC s (l.getD k eN)=true:=hh;have hk1:kd (l.getD k eN)=1:=by
   unfold bC at hh;simp only[Bool.and_eq_true,beq_iff_eq]at hh;exact hh.1
  have hpos:=h.pos k (by omega) hk1
  rw[ek,Int.toNat_natCast];split
  ·have:=nN h.its h.gQ (s:=s) (x:=ex (l.getD k eN)) (y:=ey (l.getD k eN)) hs
   exact⟨h.hp,this.2,this.1,h.pos⟩
  split
  ·unfold mD
   rw[ek,Int.toNat_natCast];split
   ·exact h
   ·have b:=h.hp.2 k (by omega)
    have g:∀j,(l.set k (nO (l.getD k eN))).getD j eN=if k=j then nO (l.getD k eN) else l.getD j eN:=fun j=>by
     rw[aN]
     by_cases z:k=j
     ·rw[if_pos ⟨z,hk⟩,if_pos z]
     ·rw[if_neg (fun y=>z y.1),if_neg z]
    refine⟨⟨by rw[List.length_set];exact hl,fun i hi=>?_⟩,h.its.drop _,h.gQ,fun i hi hki=>?_⟩
    ·rw[g]
     split
     ·show -1000≤min (hp (l.getD k eN)+6) (bE (l.getD k eN))∧min (hp (l.getD k eN)+6) (bE (l.getD k eN))≤1000∧-1000≤bE (l.getD k eN)∧bE (l.getD k eN)≤1000
      omega
     ·exact h.hp.2 i hi
    ·rw[g]at hki ⊢
     split
     ·exact hpos
     ·rename_i z
      rw[if_neg z]at hki;exact h.pos i hi hki
  split
  ·exact⟨h.hp,Eg h.its,h.gQ,h.pos⟩
  split
  ·exact⟨h.hp,Eh h.its hpos,h.gQ,h.pos⟩
  split
  ·have:=Gl h.its h.gQ (s:=s) (x:=ex (l.getD k eN)) (y:=ey (l.getD k eN)) hs
   exact⟨h.hp,this.2,this.1,h.pos⟩
  ·exact h
end Go.Proofs.YthdgahpomhnidaaGreat.Gd
namespace Go.Proofs.YthdgahpomhnidaaGreat.Tp
open Go Mx Pc Run Field Gen GenL Fl Wd Ft Ln Nav Mn
set_option maxHeartbeats 2000000
def zp(k:Int):Int:=if k=1 then 20 else if k=2 then 4 else if k=3 then 9 else 6
def oD(k:Int):Int:=if k=1 then 5 else if k=2 then 2 else if k=3 then 4 else 3
def Dm(k:Int):Int:=if k=1 then 1 else if k=3 then 1 else 0
structure Tk (c:List Int) (e:ag):Prop where
 kind:1≤kd e∧kd e≤4
 pos:0≤ex e∧ex e<24∧0≤ey e∧ey e<16∧c.getD (ey e*24+ex e).toNat 0≠0
 dT:1≤hp e∧hp e≤bE e
 stats:bE e=zp (kd e)∧c8 e=oD (kd e)∧df e=Dm (kd e)
 cR:0≤po e∧po e≤9∧0≤sn e∧sn e≤9
 aJ:(kd e=1→0≤st e∧st e<4)∧(kd e≠1→st e=0)
structure EI (c:List Int) (l:List ag):Prop where
 len:l.length=32
 gen:∀i,i<32→0≤gn (l.getD i eN)∧gn (l.getD i eN)<256
 free:∀i,i<32→kd (l.getD i eN)=0→l.getD i eN=cO (l.getD i eN)
 taken:∀i,i<32→kd (l.getD i eN)≠0→Tk c (l.getD i eN)
 apart:∀i j,i<32→j<32→kd (l.getD i eN)≠0→kd (l.getD j eN)≠0→ex (l.getD i eN)=ex (l.getD j eN)→ey (l.getD i eN)=ey (l.getD j eN)→i=j
 fq:∀i j,i<32→j<32→kd (l.getD i eN)=1→kd (l.getD j eN)=1→st (l.getD i eN)=st (l.getD j eN)→i=j
theorem yM{k:Int}(h:1≤k∧k≤4):1≤zp k∧zp k≤20∧0≤oD k∧oD k≤5∧0≤Dm k∧Dm k≤1:=by
 have:k=1∨k=2∨k=3∨k=4:=by omega
 rcases this with rfl | rfl | rfl | rfl<;>decide
theorem EI.r9{c:List Int}{l:List ag}(h:EI c l):eC l:=⟨h.len,fun i hi=>by
 by_cases k:kd (l.getD i eN)=0
 ·exact .inl ⟨k,h.free i hi k⟩
 ·have t:=h.taken i hi k
  have b:=yM t.kind;obtain⟨s1,s2,s3⟩:=t.stats;have a:=t.cR;have hh:=t.dT;exact .inr ⟨t.kind.1,t.kind.2,hh.1,hh.2,by omega,by omega,by omega,by omega,by omega,a.1,a.2.1,a.2.2.1,a.2.2.2⟩⟩
theorem EI.kf{c:List Int}{l:List ag}(h:EI c l):cM l:=⟨h.len,fun i hi=>by
 have hi':i<32:=by have:=h.len;omega
 by_cases k:kd (l.getD i eN)=0
 ·exact .inl k
 ·have:=(h.taken i hi' k).pos
  exact .inr ⟨this.1,this.2.1,this.2.2.1,this.2.2.2.1⟩⟩
theorem EI.zJ{c:List Int}{l:List ag}(h:EI c l):jJ l:=⟨h.kf,h.r9,h.apart,h.fq⟩
theorem EI.BK{c:List Int}{l:List ag}(h:EI c l):Gd.xV l:=⟨h.len,fun i hi=>by
 have hL:=h.r9.tZ i hi;show -1000≤hp (l.getD i eN)∧hp (l.getD i eN)≤1000∧-1000≤bE (l.getD i eN)∧bE (l.getD i eN)≤1000;rcases hL with ⟨_,q⟩ | q
 ·rw[q]
  show -1000≤(0:Int)∧(0:Int)≤1000∧-1000≤(0:Int)∧(0:Int)≤1000;decide
 ·omega⟩
def Su(e e':ag):Prop:=e'=cO e∨(kd e'=kd e∧gn e'=gn e∧st e'=st e∧ex e'=ex e∧ey e'=ey e∧bE e'=bE e∧c8 e'=c8 e∧df e'=df e∧(kd e=0→e'=e)∧(kd e≠0→1≤hp e'∧hp e'≤bE e'∧0≤po e'∧po e'≤9∧0≤sn e'∧sn e'≤9))
def Sub(l l':List ag):Prop:=l'.length=32∧∀i,i<32→Su (l.getD i eN) (l'.getD i eN)
theorem EI.sub{c:List Int}{l l':List ag}(h:EI c l)(s:Sub l l'):EI c l':=by
 obtain⟨sl,sg⟩:=s;have back:∀i,i<32→kd (l'.getD i eN)≠0→kd (l'.getD i eN)=kd (l.getD i eN)∧kd (l.getD i eN)≠0∧ex (l'.getD i eN)=ex (l.getD i eN)∧ey (l'.getD i eN)=ey (l.getD i eN)∧st (l'.getD i eN)=st (l.getD i eN):=fun i hi hk=>by
  rcases sg i hi with q | ⟨q1,_,q3,q4,q5,_⟩
  ·rw[q]at hk;exact absurd rfl hk
  ·exact⟨q1,by rw[←q1];exact hk,q4,q5,q3⟩
 refine⟨sl,fun i hi=>?_,fun i hi hk=>?_,fun i hi hk=>?_,fun i j hi hj h1 h2 h3 h4=>?_,fun i j hi hj h1 h2 h3=>?_⟩
 ·rcases sg i hi with q | ⟨_,q,_⟩
  ·rw[q];exact h.gen i hi
  ·rw[q];exact h.gen i hi
 ·rcases sg i hi with q | ⟨q1,_,_,_,_,_,_,_,q9,_⟩
  ·rw[q];rfl
  ·have k0:kd (l.getD i eN)=0:=by rw[←q1];exact hk
   rw[q9 k0];exact h.free i hi k0
 ·obtain⟨b1,b2,b3,b4,b5⟩:=back i hi hk
  have t:=h.taken i hi b2;rcases sg i hi with q | ⟨_,_,_,_,_,q6,q7,q8,_,q10⟩
  ·rw[q]at hk;exact absurd rfl hk
  ·obtain⟨r1,r2,r3,r4,r5,r6⟩:=q10 b2
   exact⟨by rw[b1];exact t.kind,by rw[b3,b4];exact t.pos,⟨r1,r2⟩,by rw[q6,q7,q8,b1];exact t.stats,⟨r3,r4,r5,r6⟩,by rw[b1,b5];exact t.aJ⟩
 ·obtain⟨_,b2,b3,b4,_⟩:=back i hi h1
  obtain⟨_,d2,d3,d4,_⟩:=back j hj h2;exact h.apart i j hi hj b2 d2 (by rw[←b3,←d3];exact h3) (by rw[←b4,←d4];exact h4)
 ·obtain⟨b1,_,_,_,b5⟩:=back i hi (by rw[h1];decide)
  obtain⟨d1,_,_,_,d5⟩:=back j hj (by rw[h2];decide)
  exact h.fq i j hi hj (by rw[←b1];exact h1) (by rw[←d1];exact h2) (by rw[←b5,←d5];exact h3)
theorem Su.refl{c:List Int}{l:List ag}(h:EI c l){i:Nat}(hi:i<32):Su (l.getD i eN) (l.getD i eN):=.inr ⟨rfl,rfl,rfl,rfl,rfl,rfl,rfl,rfl,fun _=>rfl,fun k=>by
 have t:=h.taken i hi k;exact⟨t.dT.1,t.dT.2,t.cR⟩⟩
theorem Sub.refl{c:List Int}{l:List ag}(h:EI c l):Sub l l:=⟨h.len,fun i hi=>Su.refl h hi⟩
theorem Sub.one{c:List Int}{l:List ag}(h:EI c l){i:Nat}(hi:i<32){e:ag}(he:Su (l.getD i eN) e):Sub l (l.set i e):=by
 refine⟨by rw[List.length_set];exact h.len,fun j hj=>?_⟩
 rw[bn _ _ _ _ _ (by have:=h.len;omega)]
 split
 ·rename_i q;subst q;exact he
 ·exact Su.refl h hj
theorem mW{c:List Int}{l:List ag}(h:EI c l){r:Int}(ha:¬alive l r=false):∃i:Nat,i<32∧r=i∧kd (l.getD i eN)≠0∧r.toNat=i:=by
 have ha':alive l r=true:=by cases e:alive l r<;>simp_all
 obtain⟨h1,h2,h3⟩:=bS.1 ha';have hl:=h.len;exact⟨r.toNat,by omega,by omega,h3,rfl⟩
theorem pH{c:List Int}{l:List ag}(h:EI c l)(its:List ak)(r n:Int):Sub l (cZ l its r n).1:=by
 unfold cZ;split
 ·exact Sub.refl h
 ·rename_i q
  obtain⟨i,hi,er,hk,et⟩:=mW h (fun z=>q (.inl z))
  have t:=h.taken i hi hk;rw[et];split
  ·rename_i q2
   refine Sub.one h hi (.inr ⟨rfl,rfl,rfl,rfl,rfl,rfl,rfl,rfl,fun z=>absurd z hk,fun _=>⟨?_,?_,t.cR⟩⟩)
   ·show 1≤hp (l.getD i eN)-n
    omega
   ·show hp (l.getD i eN)-n≤bE (l.getD i eN)
    have:=t.dT;omega
  ·exact Sub.one h hi (.inl rfl)
theorem sf{c:List Int}{l:List ag}(h:EI c l)(sd fr a b k:Int)(hb:¬alive l b=false):Sub l (leave sd fr a b k l):=by
 obtain⟨i,hi,er,hk,et⟩:=mW h hb;have t:=h.taken i hi hk;have ta:=t.cR;unfold leave;rw[et];split
 ·refine Sub.one h hi (.inr ⟨rfl,rfl,rfl,rfl,rfl,rfl,rfl,rfl,fun z=>absurd z hk,fun _=>⟨t.dT.1,t.dT.2,?_,?_,ta.2.2⟩⟩)
  ·show 0≤min (po (l.getD i eN)+3) 9
   omega
  ·show min (po (l.getD i eN)+3) 9≤9
   omega
 ·split
  ·split
   ·refine Sub.one h hi (.inr ⟨rfl,rfl,rfl,rfl,rfl,rfl,rfl,rfl,fun z=>absurd z hk,fun _=>⟨t.dT.1,t.dT.2,ta.1,ta.2.1,?_,?_⟩⟩)
    ·show 0≤min (sn (l.getD i eN)+2) 9
     omega
    ·show min (sn (l.getD i eN)+2) 9≤9
     omega
   ·exact Sub.refl h
  ·exact Sub.refl h
theorem Fi{c:List Int}{l:List ag}(h:EI c l){its:List ak}(hI:aH c its)(sd fr a b:Int):EI c (dT sd fr l its a b).1∧aH c (dT sd fr l its a b).2:=by
 have hh:EI c (cZ l its b (gC sd fr a b l its)).1:=h.sub (pH h its b _);have hu:aH c (cZ l its b (gC sd fr a b l its)).2:=by
  unfold cZ;split
  ·exact hI
  ·split
   ·exact hI
   ·show aH c (if kd (l.getD b.toNat eN)=1 then fi its (st (l.getD b.toNat eN)) else its)
    split
    ·exact oT hI _
    ·exact hI
 unfold dT;split
 ·exact⟨h,hI⟩
 ·split
  ·exact⟨hh,hu⟩
  ·rename_i q
   exact⟨hh.sub (sf hh _ _ _ _ _ q),hu⟩
theorem xS{c:List Int}{l:List ag}{its:List ak}(hI:aH c its)(r n:Int):aH c (cZ l its r n).2:=by
 unfold cZ;split
 ·exact hI
 ·split
  ·exact hI
  ·show aH c (if kd (l.getD r.toNat eN)=1 then fi its (st (l.getD r.toNat eN)) else its)
   split
   ·exact oT hI _
   ·exact hI
theorem Et{c:List Int}{l:List ag}(h:EI c l){its:List ak}(hI:aH c its){i:Nat}(hi:i<32):EI c (kb l its i).1∧aH c (kb l its i).2:=by
 unfold kb;split
 ·exact⟨h,hI⟩
 ·rename_i q
  obtain⟨i',hi',er,hk,et⟩:=mW h q;have:i'=i:=by omega
  subst this;have h1:EI c (if 0<sn (l.getD i' eN) then l.set i' (fI (l.getD i' eN) (sn (l.getD i' eN)-1)) else l)∧kd ((if 0<sn (l.getD i' eN) then l.set i' (fI (l.getD i' eN) (sn (l.getD i' eN)-1)) else l).getD i' eN)≠0:=by
   have t:=h.taken i' hi' hk;have ta:=t.cR;split
   ·rename_i p
    refine⟨h.sub (Sub.one h hi' (.inr ⟨rfl,rfl,rfl,rfl,rfl,rfl,rfl,rfl,fun z=>absurd z hk,fun _=>⟨t.dT.1,t.dT.2,ta.1,ta.2.1,?_,?_⟩⟩)),?_⟩
    ·show 0≤sn (l.getD i' eN)-1
     omega
    ·show sn (l.getD i' eN)-1≤9
     omega
    ·rw[bn _ _ _ _ _ (by have:=h.len;omega),if_pos rfl]
     exact hk
   ·exact⟨h,hk⟩
  generalize (if 0<sn (l.getD i' eN) then l.set i' (fI (l.getD i' eN) (sn (l.getD i' eN)-1)) else l)=l1 at h1
  obtain⟨h1,k1⟩:=h1;dsimp only;split
  ·rename_i p
   have t:=h1.taken i' hi' k1;have ta:=t.cR;have h2:EI c (l1.set i' (qQ (l1.getD i' eN) (po (l1.getD i' eN)-1))):=by
    refine h1.sub (Sub.one h1 hi' (.inr ⟨rfl,rfl,rfl,rfl,rfl,rfl,rfl,rfl,fun z=>absurd z k1,fun _=>⟨t.dT.1,t.dT.2,?_,?_,ta.2.2⟩⟩))
    ·show 0≤po (l1.getD i' eN)-1
     omega
    ·show po (l1.getD i' eN)-1≤9
     omega
   exact⟨h2.sub (pH h2 its _ _),xS hI _ _⟩
  ·exact⟨h1,hI⟩
theorem qX{c:List Int}{l:List ag}(h:EI c l){its:List ak}(hI:aH c its):∀n,n≤32→EI c (cR l its n).1∧aH c (cR l its n).2
 | 0,_=>⟨h,hI⟩
 | n+1,hn=>by
  rw[mm];have ih:=qX h hI n (by omega)
  exact Et ih.1 ih.2 (by omega)
def fH(e:ag)(x y:Int):ag:=(e.1,e.2.1,e.2.2.1,x,y,e.2.2.2.2.2.1,e.2.2.2.2.2.2.1,e.2.2.2.2.2.2.2.1,e.2.2.2.2.2.2.2.2.1,e.2.2.2.2.2.2.2.2.2.1,e.2.2.2.2.2.2.2.2.2.2)
theorem EI.put{c:List Int}{l:List ag}(h:EI c l){i:Nat}(hi:i<32){e:ag}(hg:0≤gn e∧gn e<256)(ht:Tk c e)(hk:kd e≠0)(ha:∀j,j<32→j≠i→kd (l.getD j eN)≠0→¬(ex (l.getD j eN)=ex e∧ey (l.getD j eN)=ey e))
  (hs:kd e=1→∀j,j<32→j≠i→kd (l.getD j eN)=1→st (l.getD j eN)≠st e):EI c (l.set i e):=by
 have hl:=h.len;have g:∀j,(l.set i e).getD j eN=if i=j then e else l.getD j eN:=fun j=>bn _ _ _ _ _ (by omega)
 refine⟨by rw[List.length_set];exact hl,fun j hj=>?_,fun j hj=>?_,fun j hj=>?_,fun j k hj hk'=>?_,fun j k hj hk'=>?_⟩
 ·rw[g];split
  ·exact hg
  ·exact h.gen j hj
 ·rw[g];split
  ·exact fun z=>absurd z hk
  ·exact h.free j hj
 ·rw[g];split
  ·exact fun _=>ht
  ·exact h.taken j hj
 ·rw[g,g]
  by_cases e1:i=j
  ·by_cases e2:i=k
   ·intros;omega
   ·rw[if_pos e1,if_neg e2]
    intro _ h0 h1 h2;exact absurd ⟨h1.symm,h2.symm⟩ (ha k hk' (fun z=>e2 z.symm) h0)
  ·by_cases e2:i=k
   ·rw[if_neg e1,if_pos e2]
    intro h0 _ h1 h2;exact absurd ⟨h1,h2⟩ (ha j hj (fun z=>e1 z.symm) h0)
   ·rw[if_neg e1,if_neg e2]
    exact h.apart j k hj hk'
 ·rw[g,g]
  by_cases e1:i=j
  ·by_cases e2:i=k
   ·intros;omega
   ·rw[if_pos e1,if_neg e2]
    intro h0 h1 h2;exact absurd h2.symm (hs h0 k hk' (fun z=>e2 z.symm) h1)
  ·by_cases e2:i=k
   ·rw[if_neg e1,if_pos e2]
    intro h0 h1 h2;exact absurd h2 (hs h1 j hj (fun z=>e1 z.symm) h0)
   ·rw[if_neg e1,if_neg e2]
    exact h.fq j k hj hk'
theorem EI.move{c:List Int}{l:List ag}(h:EI c l){i:Nat}(hi:i<32)(hk:kd (l.getD i eN)≠0){x y:Int}(hp':0≤x∧x<24∧0≤y∧y<16∧c.getD (y*24+x).toNat 0≠0)(ha:cg l x y<0):EI c (l.set i (fH (l.getD i eN) x y)):=by
 have t:=h.taken i hi hk;have no:=(mg h.len).1 ha;refine h.put hi (h.gen i hi) ⟨t.kind,hp',t.dT,t.stats,t.cR,t.aJ⟩ hk (fun j hj _ hkj=>no j hj hkj) (fun k1 j hj ne kj e=>ne (h.fq j i hj hi kj k1 e))
noncomputable def spP(l:List ag)(e:ag):List ag:=match firstFree l with
 | some i=>l.set i (nH e (Int.tmod (IntKind.wrap .i64 (gn (l.getD i eN)+1)) 256))
 | none=>l
theorem vD{c:List Int}{l:List ag}(h:EI c l){e:ag}(ht:Tk c e)(ha:cg l (ex e) (ey e)<0)(hs:kd e=1→ai l (st e)<0):EI c (spP l e):=by
 have hk:kd e≠0:=by have:=ht.kind;omega
 unfold spP;split
 ·rename_i i ei
  unfold firstFree at ei;obtain⟨h1,h2,_⟩:=List.find?_range_eq_some.1 ei;have hi:=List.mem_range.1 h2;have hg:=h.gen i hi;have no:=(mg h.len).1 ha;refine h.put hi ?_ ⟨ht.kind,ht.pos,ht.dT,ht.stats,ht.cR,ht.aJ⟩ hk (fun j hj _ hkj=>no j hj hkj) (fun k1 j hj _ kj e'=>?_)
  ·show 0≤Int.tmod (IntKind.wrap .i64 (gn (l.getD i eN)+1)) 256∧Int.tmod (IntKind.wrap .i64 (gn (l.getD i eN)+1)) 256<256
   rw[wr (by omega),Int.tmod_eq_emod_of_nonneg (by omega)]
   omega
  ·have z:=hs k1
   have:=du.1 z j (by have:=h.len;omega)
   unfold bC at this;rw[kj,e']at this;simp at this;exact this rfl
 ·exact h
end Go.Proofs.YthdgahpomhnidaaGreat.Tp
namespace Go.Proofs.YthdgahpomhnidaaGreat.Tp
open Go Mx Pc Run Field Gen GenL Fl Wd Ft Ln Nav Mn
set_option maxHeartbeats 2000000
noncomputable def aZ(c:List Int)(l:List ag)(m:Int):Int:=((f109 c l (m%24) (m/24)).getD (0,())).1
theorem vJ{l:List ag}(hl:l.length=32){x y:Int}:cg l x y<0↔fm l x y:=by
 rw[mg hl];exact⟨fun h i hi hk hz=>h i (by omega) hk hz,fun h r hr hk hz=>h r (by omega) hk hz⟩
theorem xo(f:List Int)(l:List ag):∀i,i≤384→(best f l i=-1∨(GC (best f l i)∧0≤Field.rd f (best f l i)∧fm l (best f l i%24) (best f l i/24)))∧∀j:Nat,j<i→0≤Field.rd f j→fm l ((j:Int)%24) ((j:Int)/24)→0≤best f l i
 | 0,_=>⟨.inl rfl,fun j hj=>by omega⟩
 | i+1,hi=>by
  obtain⟨h1,h2⟩:=xo f l i (by omega)
  by_cases q:0≤Field.rd f (i:Int)∧fm l ((i:Int)%24) ((i:Int)/24)∧(best f l i<0∨Field.rd f (i:Int)<Field.rd f (best f l i))
  ·rw[gO q]
   exact⟨.inr ⟨⟨by omega,by omega⟩,q.1,q.2.1⟩,fun j _ _ _=>by omega⟩
  ·rw[eJ q]
   refine⟨h1,fun j hj h0 hF=>?_⟩
   by_cases e:j=i
   ·subst e
    rcases Int.lt_or_le (best f l j) 0 with z | z
    ·exact absurd ⟨h0,hF,.inl z⟩ q
    ·exact z
   ·exact h2 j (by omega) h0 hF
theorem jO{c:List Int}(hc:CB c){l:List ag}(hE:cM l){m:Int}(hm:GC m):f109 c l (m%24) (m/24)=some (aZ c l m,()) ∧
  (aZ c l m<0∨(GC (aZ c l m)∧Wk c (aZ c l m)∧cg l (aZ c l m%24) (aZ c l m/24)<0))∧∀n,ca c m n→cg l (n%24) (n/24)<0→0≤aZ c l m:=by
 have hm':=hm;unfold GC at hm';have key:OK (f109 c l (m%24) (m/24)) fun z=>∃f,bm (bj c []) (eL c [m]) f∧z.1=best f l 384:=by
  unfold f109;rw[fe,if_pos (by omega),show m/24*24+m%24=m by omega]
  simp only[Option.bind_some];refine OK.aD (iK c hc [] [m] (by simp)) fun f hf=>?_
  exact(kM f.1 hf.len l hE).mono fun z hz=>⟨f.1,hf,hz⟩
 obtain⟨z,e,f,hf,hz⟩:=key;have es:aZ c l m=best f l 384:=by unfold aZ;rw[e];exact hz
 have hl:=hE.len;obtain⟨b1,b2⟩:=xo f l 384 (Nat.le_refl _);rw[es];refine⟨by rw[e,←hz],?_,fun n hn ha=>?_⟩
 ·rcases b1 with q | ⟨q1,q2,q3⟩
  ·exact .inl (by omega)
  ·refine .inr ⟨q1,?_,(vJ hl).2 q3⟩
   by_cases z0:Field.rd f (best f l 384)=0
   ·exact((hf.zero _ q1).1 z0).2
   ·exact((hf.up _ q1 (by omega)).1).1
 ·have g:=hn.gc
  unfold GC at g;have:=b2 n.toNat (by omega) (by rw[Int.toNat_of_nonneg g.1];exact qf hf hn) (by rw[Int.toNat_of_nonneg g.1];exact(vJ hl).1 ha)
  exact this
theorem pG(k:Int)(h:1≤k∧k≤4):f75 k=some (k,0,0,0,0,zp k,zp k,oD k,Dm k,0,0,()):=by
 have:k=1∨k=2∨k=3∨k=4:=by omega
 rcases this with rfl | rfl | rfl | rfl<;>rfl
theorem spawn_eq{c:List Int}{l:List ag}(h:EI c l)(e:ag)(hk:1≤kd e∧kd e≤4) :
  f156 l e.1 e.2.1 e.2.2.1 e.2.2.2.1 e.2.2.2.2.1 e.2.2.2.2.2.1 e.2.2.2.2.2.2.1 e.2.2.2.2.2.2.2.1 e.2.2.2.2.2.2.2.2.1 e.2.2.2.2.2.2.2.2.2.1 e.2.2.2.2.2.2.2.2.2.2 =
   match firstFree l with
   | some i=>some ((i:Int),0,l.set i (nH e (Int.tmod (IntKind.wrap .i64 (gn (l.getD i eN)+1)) 256)),())
   | none=>some (0,5,[],()):=by
 have hl:=h.len;unfold kd at hk;have ff:f153_2 l=match firstFree l with | some i=>some ((i:Int),()) | none=>some (-1,()):=by
  unfold f153_2 f153_2.L1 firstFree;rw[lv l hl];simp only[Option.bind_some];refine(it_find (x:=(l,(l.length:Int),0,())) (fun i=>kd (l.getD i eN)==0) 32 (fun i:Nat=>(l,(l.length:Int),(i:Int),())) (fun i=>some ((i:Int),())) (some (-1,())) (fun rec i hi=>?_) (by decide) rfl)
  dsimp only;rw[af]
  by_cases q:i<32
  ·rw[if_pos (by omega),if_pos q,ao (by omega),cond_true,wr (x:=(i:Int)+1) (by omega),Int.toNat_natCast]
   unfold f175;simp only[Option.bind_some];rw[cH];rfl
  ·rw[if_neg (by omega),if_neg q]
 unfold f156;rw[af,if_neg (by omega),af,if_neg (by omega),ff]
 cases ef:firstFree l with
 | none=>rfl
 | some i =>
  have hi:i<32:=by
   unfold firstFree at ef;exact List.mem_range.1 (List.find?_range_eq_some.1 ef).2.1
  have hg:=h.gen i hi;have hg':0≤(l.getD i Run.zE).2.1∧(l.getD i Run.zE).2.1<256:=hg;simp only[Option.bind_some];rw[af,if_neg (by omega),gX l (by omega)]
  simp only[Option.bind_some];rw[ao (by omega),cond_true,cond_true,Int.toNat_natCast,wr (x:=(l.getD i Run.zE).2.1+1) (by omega),Int.tmod_eq_emod_of_nonneg (a:=(l.getD i Run.zE).2.1+1) (by omega),wr (x:=((l.getD i Run.zE).2.1+1)%256+256) (by omega),Int.tmod_eq_emod_of_nonneg (by omega)]
  have e2:Int.tmod (IntKind.wrap .i64 (gn (l.getD i eN)+1)) 256=(((l.getD i Run.zE).2.1+1)%256+256)%256:=by
   rw[wr (by omega),Int.tmod_eq_emod_of_nonneg (by omega)]
   show (gn (l.getD i eN)+1)%256=((gn (l.getD i eN)+1)%256+256)%256;omega
  rw[e2];rfl
section
variable (s fr fl sta g0 g1 g2 g3:Int) (was left:Bool)
theorem tB{c:List Int}{l:List ag}(h:EI c l)(its:List ak)(e:ag)(hk:1≤kd e∧kd e≤4) :
  f101 e.1 e.2.1 e.2.2.1 e.2.2.2.1 e.2.2.2.2.1 e.2.2.2.2.2.1 e.2.2.2.2.2.2.1 e.2.2.2.2.2.2.2.1 e.2.2.2.2.2.2.2.2.1 e.2.2.2.2.2.2.2.2.2.1 e.2.2.2.2.2.2.2.2.2.2 s fr fl sta g0 g1 g2 g3 was left c l its=some (s,fr,fl,sta,g0,g1,g2,g3,was,left,c,its,spP l e,()):=by
 unfold f101 spP;rw[spawn_eq h e hk];cases firstFree l<;>rfl
variable {l:List ag} (its:List ak)
theorem yv:f108 ((s,fr,fl,sta,cells s fl,l,its,g0,g1,g2,g3),was,left)=some (aG s fl%24,aG s fl/24,true,()):=by
 have g:=cG s fl;unfold GC at g;unfold f108;dsimp only;rw[Fl.qV _ (bX s fl) (bR s fl) 3 (by decide),rG]
 simp only[Option.bind_some];rw[Int.tmod_eq_emod_of_nonneg g.1,Int.tdiv_eq_ediv_of_nonneg g.1,wr (by omega),decide_eq_true (by omega)]
def tm(aJ n:Int):ag:=(1,0,aJ,n%24,n/24,20,20,5,1,0,0)
noncomputable def nU(s fl:Int)(l:List ag)(aJ:Int):List ag:=if 0≤ai l aJ then l else if aZ (cells s fl) l (aG s fl)<0 then l else spP l (tm aJ (aZ (cells s fl) l (aG s fl)))
theorem xa(h:EI (cells s fl) l)(aJ:Int):f55 aJ s fr fl sta g0 g1 g2 g3 was left (cells s fl) l its=some (s,fr,fl,sta,g0,g1,g2,g3,was,left,cells s fl,its,nU s fl l aJ,()):=by
 have hl:=h.len;obtain⟨e1,e2,_⟩:=jO (bX s fl) h.kf (cG s fl);unfold f55 nU;rw[yv];simp only[Option.bind_some,Bool.not_true,cond_false];rw[gY l hl,e1];simp only[Option.bind_some];rw[af]
 by_cases q:0≤ai l aJ
 ·rw[if_pos q,if_pos q]
 ·rw[if_neg q,if_neg q,af]
  by_cases p:aZ (cells s fl) l (aG s fl)<0
  ·rw[if_pos p,if_pos p]
  ·rw[if_neg p,if_neg p]
   have g:=(e2.resolve_left p).1;unfold GC at g;rw[pG 1 (by decide)]
   simp only[Option.bind_some];rw[Int.tmod_eq_emod_of_nonneg g.1,Int.tdiv_eq_ediv_of_nonneg g.1,wr (x:=aZ (cells s fl) l (aG s fl)/24) (by omega)]
   have k:=tB s fr fl sta g0 g1 g2 g3 was left h its (tm aJ (aZ (cells s fl) l (aG s fl))) (by show 1≤(1:Int)∧(1:Int)≤4;decide)
   refine(congrArg (fun o=>Option.bind o _) k).trans ?_
   rfl
theorem DF(h:EI (cells s fl) l){aJ:Int}(hs:0≤aJ∧aJ<4):EI (cells s fl) (nU s fl l aJ):=by
 obtain⟨_,e2,_⟩:=jO (bX s fl) h.kf (cG s fl);unfold nU;split
 ·exact h
 ·rename_i q
  split
  ·exact h
  ·rename_i p
   obtain⟨g,w,a⟩:=e2.resolve_left p;have w':=(gF (dq s fl _)).1 w;unfold GC at g;refine vD h (e:=tm aJ (aZ (cells s fl) l (aG s fl))) ⟨by show 1≤(1:Int)∧(1:Int)≤4;decide,?_,by show 1≤(20:Int)∧(20:Int)≤20;decide,by show (20:Int)=20∧(5:Int)=5∧(1:Int)=1;decide,by show 0≤(0:Int)∧(0:Int)≤9∧0≤(0:Int)∧(0:Int)≤9;decide,fun _=>hs,fun z=>absurd rfl z⟩ a (fun _=>by show ai l aJ<0;omega)
   show 0≤aZ (cells s fl) l (aG s fl)%24∧aZ (cells s fl) l (aG s fl)%24<24∧0≤aZ (cells s fl) l (aG s fl)/24∧aZ (cells s fl) l (aG s fl)/24<16∧(cells s fl).getD (aZ (cells s fl) l (aG s fl)/24*24+aZ (cells s fl) l (aG s fl)%24).toNat 0≠0;rw[show aZ (cells s fl) l (aG s fl)/24*24+aZ (cells s fl) l (aG s fl)%24=aZ (cells s fl) l (aG s fl) by omega]
   exact⟨by omega,by omega,by omega,by omega,w'⟩
def cL(l:List ag):Bool:=((List.range 32).find? fun i=>kd (l.getD i eN)==1).isSome
theorem nk(c:List Int)(hl:l.length=32):f54 ((s,fr,fl,sta,c,l,its,g0,g1,g2,g3),was,left)=some (cL l,()):=by
 unfold f54 f106 f158 f158.L1 cL;dsimp only;refine(congrArg (fun o=>Option.bind (Option.bind o _) _) (it_find (x:=(l,(l.length:Int),0,())) (fun i=>kd (l.getD i eN)==1) 32 (fun i:Nat=>(l,(l.length:Int),(i:Int),())) (fun i=>some ((i:Int),())) (some (-1,())) (fun rec i hi=>?_) (by decide) rfl)).trans ?_
 ·dsimp only
  rw[af]
  by_cases q:i<32
  ·rw[if_pos (by omega),if_pos q,ao (by omega),cond_true,wr (x:=(i:Int)+1) (by omega),Int.toNat_natCast]
   unfold f107;simp only[Option.bind_some];rw[cH];rfl
  ·rw[if_neg (by omega),if_neg q]
 ·cases (List.range 32).find? fun i=>kd (l.getD i eN)==1 with
  | none=>rfl
  | some k =>
   show some (decide ((k:Int)≥0),())=_;rw[decide_eq_true (by omega)]
   rfl
end
end Go.Proofs.YthdgahpomhnidaaGreat.Tp
namespace Go.Proofs.YthdgahpomhnidaaGreat.Tp
open Go Mx Pc Run Field Gen GenL Fl Wd Ft Ln Nav Mn
set_option maxHeartbeats 2000000
structure CC (c:List Int):Prop where
 len:c.length=384
 cb:CB c
 val:∀i,0≤c.getD i 0∧c.getD i 0≤5
theorem fu(s fl:Int):CC (cells s fl):=⟨bR s fl,bX s fl,dq s fl⟩
structure WO (c:List Int) (l:List ag) (its:List ak) (g0 g1 g2 g3:Int):Prop where
 ei:EI c l
 it:aH c its
 gQ:Gd.jg g0 g1 g2 g3
noncomputable def gr(s fr:Int)(c:List Int)(l:List ag)(its:List ak)(row j:Nat):List ag×List ak :=
 if cg l (ex (l.getD row eN)+ddx j) (ey (l.getD row eN)+bf j)<0 then
  if aQ (dp c (ex (l.getD row eN)+ddx j) (ey (l.getD row eN)+bf j))=true then (l.set row (fH (l.getD row eN) (ex (l.getD row eN)+ddx j) (ey (l.getD row eN)+bf j)),its) else (l,its)
 else if (!(kd (l.getD (cg l (ex (l.getD row eN)+ddx j) (ey (l.getD row eN)+bf j)).toNat eN)==1)==(kd (l.getD row eN)==1))=true then dT s fr l its row (cg l (ex (l.getD row eN)+ddx j) (ey (l.getD row eN)+bf j)) else (l,its)
section
variable (s fr fl sta g0 g1 g2 g3:Int) (was left:Bool) {c:List Int} (hc:CC c) {l:List ag} {its:List ak}
include hc
theorem wG(h:EI c l)(hI:aH c its){row:Nat}(hr:row<32)(hk:kd (l.getD row eN)≠0){j:Nat}(hj:j<4) :
  f112 (row:Int) (1+(j:Int)) s fr fl sta g0 g1 g2 g3 was left c l its=some (s,fr,fl,sta,g0,g1,g2,g3,was,left,c,(gr s fr c l its row j).1,(gr s fr c l its row j).2,()):=by
 have hl:=h.len;have hcl:=hc.len;have hil:=hI.len;have d:=dd j hj;have hp':=(h.taken row hr hk).pos;have eX:(l.getD row Run.zE).2.2.2.1=ex (l.getD row eN):=rfl;have eY:(l.getD row Run.zE).2.2.2.2.1=ey (l.getD row eN):=rfl;have irow:ae (row:Int) 32=true:=ao (by omega)
 unfold f112 gr;rw[hl,irow,cond_true,qH j hj];simp only[Option.bind_some];rw[Int.toNat_natCast,eX,eY,wr (x:=ex (l.getD row eN)+ddx j) (by omega),wr (x:=ey (l.getD row eN)+bf j) (by omega),j8 l hl,tk c hc.cb _ _ (by omega) (by omega)]
 simp only[Option.bind_some];rw[jS];simp only[Option.bind_some];have ab:=tA l (ex (l.getD row eN)+ddx j) (ey (l.getD row eN)+bf j);have gs:∀e:ag,(l.set row e).getD row Run.zE=e:=fun e=>by
  have:=bn l row row e eN (by omega)
  rw[if_pos rfl]at this;exact this
 have sl:∀e:ag,(l.set row e).length=32:=fun e=>by rw[List.length_set];exact hl
 have eK:(l.getD row Run.zE).1=kd (l.getD row eN):=rfl;generalize hx:ex (l.getD row eN)+ddx j=x at *
 generalize hy:ey (l.getD row eN)+bf j=y at *
 generalize hto:cg l x y=to at *
 rw[af]
 by_cases q:to<0
 ·rw[if_pos q,if_pos q]
  simp only[Option.bind_some,Sum.elim_inl];cases hw:aQ (dp c x y) with
  | false =>
   simp only[cond_false,Bool.false_eq_true,if_false];rw[af,if_neg (by omega)]
  | true =>
   simp only[cond_true,if_true,Int.toNat_natCast,hl,irow,sl,gs,List.set_set];rfl
 ·rw[if_neg q,if_neg q]
  simp only[Option.bind_some,Sum.elim_inl,cond_false];have ito:ae to 32=true:=ao (by omega)
  have eT:(l.getD to.toNat Run.zE).1=kd (l.getD to.toNat eN):=rfl;rw[af,if_pos (by omega),hl,ito,cond_true,eT,eK,Gs s fr fl sta c g0 g1 g2 g3 (by omega) h.r9 (iJ hI) (row:Int) to]
  simp only[Option.bind_some];cases !(kd (l.getD to.toNat eN)==1)==(kd (l.getD row eN)==1)<;>rfl
set_option linter.unusedSectionVars false in
theorem xb(h:EI c l)(hI:aH c its){row:Nat}(hr:row<32)(hk:kd (l.getD row eN)≠0){j:Nat}(hj:j<4):EI c (gr s fr c l its row j).1∧aH c (gr s fr c l its row j).2:=by
 unfold gr;split
 ·rename_i q
  split
  ·rename_i w
   refine⟨h.move hr hk ?_ q,hI⟩;unfold dp at w;split at w
   ·rename_i r
    refine⟨r.1,r.2.1,r.2.2.1,r.2.2.2,fun z=>?_⟩
    unfold Field.rd at w;rw[z]at w;exact absurd w (by decide)
   ·exact absurd w (by decide)
  ·exact⟨h,hI⟩
 ·split
  ·exact Fi h hI _ _ _ _
  ·exact⟨h,hI⟩
abbrev RT:=Int×Int×Int×Int×Bool×List ag×List ak
noncomputable def kT(s fr:Int)(c:List Int)(aJ inp:Int)(row:Nat)(w:RT):RT :=
 if 1≤inp∧inp≤4 then (w.1,w.2.1,w.2.2.1,w.2.2.2.1,w.2.2.2.2.1,(gr s fr c w.2.2.2.2.2.1 w.2.2.2.2.2.2 row (inp-1).toNat).1,(gr s fr c w.2.2.2.2.2.1 w.2.2.2.2.2.2 row (inp-1).toNat).2)
 else if inp=9 then (w.1,w.2.1,w.2.2.1,w.2.2.2.1,w.2.2.2.2.1||dp c (ex (w.2.2.2.2.2.1.getD row eN)) (ey (w.2.2.2.2.2.1.getD row eN))==4,w.2.2.2.2.2.1,w.2.2.2.2.2.2)
 else if 4<inp∧inp≤10 then
  ((Gd.cJ c w.2.2.2.2.2.1 w.2.2.2.2.2.2 w.1 w.2.1 w.2.2.1 w.2.2.2.1 aJ inp).1,(Gd.cJ c w.2.2.2.2.2.1 w.2.2.2.2.2.2 w.1 w.2.1 w.2.2.1 w.2.2.2.1 aJ inp).2.1,(Gd.cJ c w.2.2.2.2.2.1 w.2.2.2.2.2.2 w.1 w.2.1 w.2.2.1 w.2.2.2.1 aJ inp).2.2.1,(Gd.cJ c w.2.2.2.2.2.1 w.2.2.2.2.2.2 w.1 w.2.1 w.2.2.1 w.2.2.2.1 aJ inp).2.2.2.1,w.2.2.2.2.1,(Gd.cJ c w.2.2.2.2.2.1 w.2.2.2.2.2.2 w.1 w.2.1 w.2.2.1 w.2.2.2.1 aJ inp).2.2.2.2.1,(Gd.cJ c w.2.2.2.2.2.1 w.2.2.2.2.2.2 w.1 w.2.1 w.2.2.1 w.2.2.2.1 aJ inp).2.2.2.2.2)
 else w
theorem zD(h:WO c l its g0 g1 g2 g3)(aJ inp:Int){row:Nat}(hr:row<32)(hk:kd (l.getD row eN)≠0) :
  ∃w,w=kT s fr c aJ inp row (g0,g1,g2,g3,left,l,its)∧f110 aJ (row:Int) inp s fr fl sta g0 g1 g2 g3 was left c l its=some (s,fr,fl,sta,w.1,w.2.1,w.2.2.1,w.2.2.2.1,was,w.2.2.2.2.1,c,w.2.2.2.2.2.1,w.2.2.2.2.2.2,()):=by
 have hl:=h.ei.len;have irow:ae (row:Int) 32=true:=ao (by omega)
 have hp':=(h.ei.taken row hr hk).pos;refine⟨_,rfl,?_⟩;unfold f110 kT;rw[hl,irow,cond_true];dsimp only;have tail:∀b:Bool,(b=true↔1≤inp∧inp≤4)→True:=fun _ _=>trivial
 rw[af]
 by_cases q1:inp≥1
 ·rw[if_pos q1]
  simp only[Option.bind_some,Sum.elim_inl,Int.toNat_natCast]
  by_cases q4:inp≤4
  ·rw[decide_eq_true q4,cond_true,if_pos ⟨q1,q4⟩]
   obtain⟨j,hj,ej⟩:∃j:Nat,j<4∧inp=1+(j:Int):=⟨(inp-1).toNat,by omega,by omega⟩
   subst ej;rw[wG s fr fl sta g0 g1 g2 g3 was left hc h.ei h.it hr hk hj,show (1+(j:Int)-1).toNat=j by omega]
   rfl
  ·rw[decide_eq_false q4,cond_false,if_neg (fun z=>q4 z.2)]
   by_cases q9:inp=9
   ·rw[beq_iff_eq.2 q9,cond_true,if_pos q9]
    have eX:(l.getD row Run.zE).2.2.2.1=ex (l.getD row eN):=rfl;have eY:(l.getD row Run.zE).2.2.2.2.1=ey (l.getD row eN):=rfl;cases left with
    | true=>rfl
    | false =>
     rw[cond_false,eX,eY,tk c hc.cb _ _ (by omega) (by omega)]
     simp only[Option.bind_some,Bool.false_or]
   ·rw[beq_eq_false_iff_ne.2 q9,cond_false,if_neg q9,af,if_pos (by omega),af]
    by_cases q10:inp≤10
    ·rw[if_pos q10,if_pos ⟨by omega,q10⟩,Gd.GH s fr fl sta c hc.cb hc.len h.ei.BK h.it h.gQ]
     rfl
    ·rw[if_neg q10,if_neg (fun z=>q10 z.2)]
 ·rw[if_neg q1]
  simp only[Option.bind_some,Sum.elim_inl,cond_false];rw[if_neg (fun z=>q1 z.1),beq_eq_false_iff_ne.2 (show inp≠9 by omega),cond_false,if_neg (by omega),af,if_neg (by omega),if_neg (by omega)]
omit hc in
theorem xj(h:EI c l){r:Nat}(hr:r<32)(hk:kd (l.getD r eN)≠0):Su (l.getD r eN) (Gd.nO (l.getD r eN)):=by
 have t:=h.taken r hr hk;have th:=t.dT;have ta:=t.cR;refine .inr ⟨rfl,rfl,rfl,rfl,rfl,rfl,rfl,rfl,fun z=>absurd z hk,fun _=>⟨?_,?_,?_,?_,ta.2.2⟩⟩
 ·show 1≤min (hp (l.getD r eN)+6) (bE (l.getD r eN))
  omega
 ·show min (hp (l.getD r eN)+6) (bE (l.getD r eN))≤bE (l.getD r eN)
  omega
 ·show 0≤(0:Int)
  decide
 ·show (0:Int)≤9
  decide
omit hc in
theorem GR(h:WO c l its g0 g1 g2 g3)(aJ inp:Int):WO c (Gd.cJ c l its g0 g1 g2 g3 aJ inp).2.2.2.2.1 (Gd.cJ c l its g0 g1 g2 g3 aJ inp).2.2.2.2.2 (Gd.cJ c l its g0 g1 g2 g3 aJ inp).1 (Gd.cJ c l its g0 g1 g2 g3 aJ inp).2.1 (Gd.cJ c l its g0 g1 g2 g3 aJ inp).2.2.1 (Gd.cJ c l its g0 g1 g2 g3 aJ inp).2.2.2.1:=by
 have W:=Gd.GP (⟨h.ei.BK,h.it,h.gQ,fun i hi hk=>(h.ei.taken i hi (by
  have hk:kd (l.getD i eN)=1:=hk;rw[hk];decide)).pos⟩:Gd.WI c l its g0 g1 g2 g3) aJ inp
 refine⟨?_,W.its,W.gQ⟩;unfold Gd.cJ;split
 ·exact h.ei
 ·rename_i q
  split
  ·exact h.ei
  ·split
   ·show EI c (Gd.mD l its aJ).1
    unfold Gd.mD;split
    ·exact h.ei
    ·have hn:¬ai l aJ<0:=fun z=>q (.inl z)
     obtain⟨r,hr,er,hk,_⟩:=cI h.ei.len hn;have e2:Gd.ai l aJ=ai l aJ:=rfl;show EI c (l.set (Gd.ai l aJ).toNat (Gd.nO (l.getD (Gd.ai l aJ).toNat eN)));rw[e2,er,Int.toNat_natCast];exact h.ei.sub (Sub.one h.ei hr (xj h.ei hr (by rw[hk];decide)))
   ·split
    ·exact h.ei
    ·split
     ·exact h.ei
     ·split
      ·exact h.ei
      ·exact h.ei
theorem At(h:WO c l its g0 g1 g2 g3)(aJ inp:Int){row:Nat}(hr:row<32)(hk:kd (l.getD row eN)≠0){w:RT}(e:w=kT s fr c aJ inp row (g0,g1,g2,g3,left,l,its)):WO c w.2.2.2.2.2.1 w.2.2.2.2.2.2 w.1 w.2.1 w.2.2.1 w.2.2.2.1:=by
 subst e;unfold kT;dsimp only;split
 ·rename_i q
  have:=xb s fr hc h.ei h.it hr hk (j:=(inp-1).toNat) (by omega)
  exact⟨this.1,this.2,h.gQ⟩
 ·split
  ·exact h
  ·split
   ·exact GR g0 g1 g2 g3 h aJ inp
   ·exact h
noncomputable def ko(s fr:Int)(c:List Int)(aJ how inp:Int)(w:RT):RT :=
 if ai w.2.2.2.2.2.1 aJ<0 then w
 else if 0<sn (w.2.2.2.2.2.1.getD (ai w.2.2.2.2.2.1 aJ).toNat eN) then w
 else if how=2 then kT s fr c aJ (pX c w.2.2.2.2.2.1 w.2.2.2.2.2.2 aJ) (ai w.2.2.2.2.2.1 aJ).toNat w
 else if how=1 then kT s fr c aJ inp (ai w.2.2.2.2.2.1 aJ).toNat w
 else w
theorem xM(h:WO c l its g0 g1 g2 g3)(aJ how inp:Int)(sp:Bool) :
  ∃w,w=ko s fr c aJ how inp (g0,g1,g2,g3,left,l,its)∧WO c w.2.2.2.2.2.1 w.2.2.2.2.2.2 w.1 w.2.1 w.2.2.1 w.2.2.2.1∧f56 aJ how inp sp s fr fl sta g0 g1 g2 g3 was left c l its=some (s,fr,fl,sta,w.1,w.2.1,w.2.2.1,w.2.2.2.1,was,w.2.2.2.2.1,c,w.2.2.2.2.2.1,w.2.2.2.2.2.2,()):=by
 have hl:=h.ei.len;unfold f56 ko;rw[gY l hl];simp only[Option.bind_some];rw[af]
 by_cases q:ai l aJ<0
 ·rw[if_pos q,if_pos q]
  exact⟨_,rfl,h,rfl⟩
 ·obtain⟨r,hr,er,hk,_⟩:=cI hl q
  have eS:(l.getD r Run.zE).2.2.2.2.2.2.2.2.2.2=sn (l.getD r eN):=rfl;have hk0:kd (l.getD r eN)≠0:=by rw[hk];decide
  rw[if_neg q,if_neg q,er,ao (by omega),cond_true,Int.toNat_natCast,eS,af]
  by_cases q2:sn (l.getD r eN)>0
  ·rw[if_pos q2,if_pos q2]
   exact⟨_,rfl,h,rfl⟩
  ·rw[if_neg q2,if_neg (show ¬0<sn (l.getD r eN) from q2)]
   by_cases q3:how=2
   ·obtain⟨w,ew,e⟩:=zD s fr fl sta g0 g1 g2 g3 was left hc h aJ (pX c l its aJ) hr hk0
    rw[beq_iff_eq.2 q3,cond_true,if_pos q3,Cw s fr fl sta g0 g1 g2 g3 hc.cb hc.len h.ei.kf h.it aJ (FK h.ei.r9)];simp only[Option.bind_some,Sum.elim_inl];refine⟨w,ew,At s fr g0 g1 g2 g3 left hc h aJ _ hr hk0 ew,?_⟩;rw[e];rfl
   ·rw[beq_eq_false_iff_ne.2 q3,cond_false,if_neg q3]
    by_cases q4:how=1
    ·obtain⟨w,ew,e⟩:=zD s fr fl sta g0 g1 g2 g3 was left hc h aJ inp hr hk0
     rw[beq_iff_eq.2 q4,cond_true,if_pos q4];simp only[Option.bind_some,Sum.elim_inl];refine⟨w,ew,At s fr g0 g1 g2 g3 left hc h aJ _ hr hk0 ew,?_⟩;rw[e];rfl
    ·rw[beq_eq_false_iff_ne.2 q4,cond_false,if_neg q4]
     exact⟨_,rfl,h,rfl⟩
noncomputable def pN(s fr:Int)(c:List Int)(p:List ag×List ak)(i:Nat):List ag×List ak :=
 if kd (p.1.getD i eN)=0∨kd (p.1.getD i eN)=1∨0<sn (p.1.getD i eN) then p
 else if 1≤gN c p.1 s fr i∧gN c p.1 s fr i≤4 then gr s fr c p.1 p.2 i (gN c p.1 s fr i-1).toNat else p
noncomputable def de(s fr:Int)(c:List Int)(p:List ag×List ak)(n:Nat):List ag×List ak:=(List.range n).foldl (pN s fr c) p
omit hc in
theorem ny(s fr:Int)(c:List Int)(p:List ag×List ak)(n:Nat):de s fr c p (n+1)=pN s fr c (de s fr c p n) n:=by
 unfold de;rw[List.range_succ,List.foldl_append];rfl
theorem E1{p:List ag×List ak}(h:EI c p.1)(hI:aH c p.2){i:Nat}(hi:i<32):EI c (pN s fr c p i).1∧aH c (pN s fr c p i).2:=by
 unfold pN;split
 ·exact⟨h,hI⟩
 ·rename_i q
  split
  ·rename_i w
   exact xb s fr hc h hI hi (fun z=>q (.inl z)) (by omega)
  ·exact⟨h,hI⟩
theorem la{p:List ag×List ak}(h:EI c p.1)(hI:aH c p.2):∀n,n≤32→EI c (de s fr c p n).1∧aH c (de s fr c p n).2
 | 0,_=>⟨h,hI⟩
 | n+1,hn=>by
  rw[ny];have ih:=la h hI n (by omega)
  exact E1 s fr hc ih.1 ih.2 (by omega)
theorem vZ(h:EI c l)(hI:aH c its) :
  f57 s fr fl sta g0 g1 g2 g3 was left c l its=some (s,fr,fl,sta,g0,g1,g2,g3,was,left,c,(de s fr c (l,its) 32).1,(de s fr c (l,its) 32).2,()):=by
 have hl0:=h.len;have e32:aX (l.length:Int) 32=32:=by rw[br];omega
 refine OK.eq ?_;unfold f57 f57.L1;rw[e32];refine OK.loop (fun i:Nat=>(32,(i:Int),s,fr,fl,sta,g0,g1,g2,g3,was,left,c,(de s fr c (l,its) i).1,(de s fr c (l,its) i).2,())) (fun i=>i≤32) (fun i=>32-i) (fun rec i hi ih=>?_) 0 rfl (Nat.zero_le _) (by decide)
 dsimp only at hi ih ⊢;rw[af]
 by_cases q:i<32
 ·have nx:=ih (i+1) (by omega) (by omega) _ rfl
  rw[ny]at nx;obtain⟨hE,hIt⟩:=la s fr hc (p:=(l,its)) h hI i hi;generalize de s fr c (l,its) i=p at *
  obtain⟨l1,i1⟩:=p;dsimp only at hE hIt nx ⊢;have hl:=hE.len;have eK:(l1.getD i Run.zE).1=kd (l1.getD i eN):=rfl;have eS:(l1.getD i Run.zE).2.2.2.2.2.2.2.2.2.2=sn (l1.getD i eN):=rfl;unfold pN at nx;dsimp only at nx;rw[if_pos (by omega),ao (by omega),cond_true,wr (x:=(i:Int)+1) (by omega),Int.toNat_natCast,eK,eS]
  by_cases k0:kd (l1.getD i eN)=0
  ·rw[if_pos (.inl k0)]at nx
   rw[beq_iff_eq.2 k0,cond_true];exact nx
  ·rw[beq_eq_false_iff_ne.2 k0,cond_false]
   by_cases k1:kd (l1.getD i eN)=1
   ·rw[if_pos (.inr (.inl k1))]at nx
    rw[beq_iff_eq.2 k1,cond_true];exact nx
   ·rw[beq_eq_false_iff_ne.2 k1,cond_false,af]
    by_cases k2:sn (l1.getD i eN)>0
    ·rw[if_pos (.inr (.inr k2))]at nx
     rw[if_pos k2];exact nx
    ·rw[if_neg (fun z=>by rcases z with z | z | z<;>contradiction)]at nx
     rw[if_neg k2,yl s fr fl sta g0 g1 g2 g3 hc.cb hE.kf i1 (i:Int)];simp only[Option.bind_some];rw[af,af]
     by_cases m1:gN c l1 s fr i≥1
     ·rw[if_pos m1]
      by_cases m4:gN c l1 s fr i≤4
      ·rw[if_pos ⟨m1,m4⟩]at nx
       rw[if_pos m4];obtain⟨j,hj,ej⟩:∃j:Nat,j<4∧gN c l1 s fr i=1+(j:Int):=⟨(gN c l1 s fr i-1).toNat,by omega,by omega⟩
       rw[ej,show (1+(j:Int)-1).toNat=j by omega]at nx
       rw[ej,wG s fr fl sta g0 g1 g2 g3 was left hc hE hIt q k0 hj];exact nx
      ·rw[if_neg (fun z=>m4 z.2)]at nx
       rw[if_neg m4];exact nx
     ·rw[if_neg (fun z=>m1 z.1)]at nx
      rw[if_neg m1];exact nx
 ·have:i=32:=by omega
  subst this;rw[if_neg (by omega)]
  exact OK.ret rfl
end
end Go.Proofs.YthdgahpomhnidaaGreat.Tp
namespace Go.Proofs.YthdgahpomhnidaaGreat.Tp
open Go Mx Pc Run Field Gen GenL Fl Wd Ft Ln Nav Mn
set_option maxHeartbeats 2000000
def yi(n:Int):ag:=(2,0,0,n%24,n/24,4,4,2,0,0,0)
noncomputable def l8(s fr fl:Int)(l:List ag):List ag:=if Int.tmod fr 16≠0 then l else if 0≤cg l (aG s fl%24) (aG s fl/24) then l else spP l (yi (aG s fl))
section
variable (s fr fl sta g0 g1 g2 g3:Int) (was left:Bool) {l:List ag} (its:List ak)
theorem Fj(h:EI (cells s fl) l):f59 s fr fl sta g0 g1 g2 g3 was left (cells s fl) l its=some (s,fr,fl,sta,g0,g1,g2,g3,was,left,cells s fl,its,l8 s fr fl l,()):=by
 have hl:=h.len;unfold f59 l8;rw[yv];simp only[Option.bind_some,Bool.not_true,cond_false];rw[j8 l hl];simp only[Option.bind_some]
 by_cases q:Int.tmod fr 16=0
 ·rw[if_neg (fun z=>z q),show (Int.tmod fr 16 !=0)=false from by rw[q];rfl,cond_false,af]
  by_cases p:0≤cg l (aG s fl%24) (aG s fl/24)
  ·rw[if_pos p,if_pos p]
  ·rw[if_neg p,if_neg p,pG 2 (by decide)]
   simp only[Option.bind_some];have k:=tB s fr fl sta g0 g1 g2 g3 was left h its (yi (aG s fl)) (by show 1≤(2:Int)∧(2:Int)≤4;decide)
   refine(congrArg (fun o=>Option.bind o _) k).trans ?_
   rfl
 ·rw[if_pos q,bne_iff_ne.2 q,cond_true]
theorem rD(s fl:Int){n:Int}(g:GC n)(w:Wk (cells s fl) n):0≤n%24∧n%24<24∧0≤n/24∧n/24<16∧(cells s fl).getD (n/24*24+n%24).toNat 0≠0:=by
 have w':=(gF (dq s fl _)).1 w;unfold GC at g;rw[show n/24*24+n%24=n by omega]
 exact⟨by omega,by omega,by omega,by omega,w'⟩
theorem AP(h:EI (cells s fl) l):EI (cells s fl) (l8 s fr fl l):=by
 unfold l8;split
 ·exact h
 ·split
  ·exact h
  ·rename_i q
   have g:=cG s fl;have w:Wk (cells s fl) (aG s fl):=(iU s fl _).2 (tD s fl);exact vD h (e:=yi (aG s fl)) ⟨by show 1≤(2:Int)∧(2:Int)≤4;decide,rD s fl g w,by show 1≤(4:Int)∧(4:Int)≤4;decide,by show (4:Int)=4∧(2:Int)=2∧(0:Int)=0;decide,by show 0≤(0:Int)∧(0:Int)≤9∧0≤(0:Int)∧(0:Int)≤9;decide,fun z=>absurd z (by show (2:Int)≠1;decide),fun _=>rfl⟩ (by show cg l (aG s fl%24) (aG s fl/24)<0;omega) (fun z=>absurd z (by show (2:Int)≠1;decide))
end
theorem AD{c:List Int}{its:List ak}(hI:aH c its)(hw:∀i,i<40→(its.getD i iN).2.1≠1∧(its.getD i iN).2.1≠4){more:List ak}(hm:more.length≤1000)
  (hk:∀k,k<more.length→1≤(more.getD k iN).1∧(more.getD k iN).1≤4∧cQ c (more.getD k iN)∧((more.getD k iN).2.1=1∨(more.getD k iN).2.1=4))
  (hd:∀k n,k<n→n<more.length→(more.getD k iN).2≠(more.getD n iN).2):OK (f102 its more) fun z=>aH c z.1:=by
 have hil:=hI.len;unfold f102;rw[Gd.g9 its (by omega)]
 simp only[Option.bind_some];unfold f102.L1;refine OK.loop (fun j:Nat×List ak=>(more,(more.length:Int),(j.1:Int),j.2,())) (fun j=>j.1≤more.length∧aH c j.2∧∀i,i<40→((j.2.getD i iN).2.1=1∨(j.2.getD i iN).2.1=4)→∃k,k<j.1∧j.2.getD i iN=more.getD k iN) (fun j=>more.length-j.1) (fun rec j hj ih=>?_) (0,its) rfl ⟨Nat.zero_le _,hI,fun i hi hh=>by have:=hw i hi;have hh':(its.getD i iN).2.1=1∨(its.getD i iN).2.1=4:=hh;omega⟩ (by dsimp only;omega)
 obtain⟨n,o⟩:=j;obtain⟨hn,hO,hN⟩:=hj;dsimp only at hn hO hN ih ⊢;have ol:=hO.len;rw[af]
 by_cases q:n<more.length
 ·have e40:aX (o.length:Int) 40=40:=by rw[br];omega
  rw[if_pos (by omega),ao (by omega),cond_true,e40,decide_eq_true (by omega),cond_true,wr (x:=(n:Int)+1) (by omega),Int.toNat_natCast]
  have er:List.drop 0 (List.take (Int.toNat (40:Int)) o)=o:=by rw[List.drop_zero];exact List.take_of_length_le (by omega)
  rw[er];have ix:OK (f157 o 0 0 0 0) fun z=>z.1=-1∨∃i:Nat,i<40∧z.1=i:=by
   unfold f157 f157.L1;refine OK.loop (fun i:Nat=>(o,(o.length:Int),(i:Int),0,0,0,0,())) (fun i=>i≤40) (fun i=>40-i) (fun rec i hi ih=>?_) 0 rfl (Nat.zero_le _) (by decide)
   dsimp only at hi ih ⊢;rw[af]
   by_cases p:i<40
   ·rw[if_pos (by omega),ao (by omega),cond_true,wr (x:=(i:Int)+1) (by omega)]
    refine OK.bif (fun _=>OK.ret (.inr ⟨i,p,rfl⟩)) (fun _=>ih (i+1) (by omega) (by omega) _ rfl)
   ·rw[if_neg (by omega)]
    exact OK.ret (.inl rfl)
  refine OK.aD ix fun z hz=>?_
  rw[af];obtain⟨k1,k2,k3,k4⟩:=hk n q;rcases hz with hz | ⟨i,hi,hz⟩
  ·rw[if_neg (by omega)]
   refine ih (n+1,o) ⟨by dsimp only;omega,hO,fun i hi hh=>?_⟩ (by dsimp only;omega) _ rfl
   obtain⟨k,a,b⟩:=hN i hi hh;exact⟨k,by dsimp only;omega,b⟩
  ·rw[hz,if_pos (by omega),ao (by omega),cond_true,Int.toNat_natCast]
   have hp':aH c (o.set i (more.getD n iN)):=hO.put hi ⟨k1,k2⟩ k3 fun j hj ne e=>by
    have hw':(o.getD j iN).2.1=1∨(o.getD j iN).2.1=4:=by rw[e];exact k4
    obtain⟨k,a,b⟩:=hN j hj hw';rw[b]at e;exact hd k n a q e
   refine ih (n+1,o.set i (more.getD n iN)) ⟨by dsimp only;omega,hp',fun j hj hh=>?_⟩ (by dsimp only;omega) _ rfl
   rw[bn _ _ _ _ _ (by omega)]at hh ⊢
   by_cases e:i=j
   ·rw[if_pos e]at hh ⊢
    exact⟨n,by dsimp only;omega,rfl⟩
   ·rw[if_neg e]at hh ⊢
    obtain⟨k,a,b⟩:=hN j hj hh;exact⟨k,by dsimp only;omega,b⟩
 ·rw[if_neg (by omega)]
  exact OK.ret hO
theorem je(s fl:Int):∃more,more=(floor s fl).2.2.1∧more.length≤7∧(∀k,k<more.length→1≤(more.getD k iN).1∧(more.getD k iN).1≤4∧cQ (cells s fl) (more.getD k iN)∧((more.getD k iN).2.1=1∨(more.getD k iN).2.1=4))∧∀k n,k<n→n<more.length→(more.getD k iN).2≠(more.getD n iN).2:=by
 obtain⟨L,hL,hl4⟩:=FM s fl (cells s fl) (aF s fl);refine⟨_,rfl,?_⟩;have e:(floor s fl).2.2.1=(its s fl (cells s fl) (aF s fl) 4 0 [] [])++fJ s fl:=rfl;rw[e];clear e;generalize its s fl (cells s fl) (aF s fl) 4 0 [] []=A at hL;have hlen:=hL.len;have wl:=zu s fl;have wl3:(fJ s fl).length≤3:=by rw[wl];split<;>decide
 have wat:∀j,j<(fJ s fl).length→(fJ s fl).getD j iN=cN s fl j:=fun j hj=>by
  have e:fJ s fl=if (cD s fl).isSome then [cN s fl 0,cN s fl 1,cN s fl 2] else []:=rfl
  by_cases h:(cD s fl).isSome=true
  ·rw[if_pos h]at e
   rw[e]at hj ⊢;have key:j=0∨j=1∨j=2:=by simp at hj;omega
   rcases key with rfl | rfl | rfl<;>rfl
  ·rw[if_neg h]at e
   rw[e]at hj;exact absurd hj (Nat.not_lt_zero j)
 have gA:∀k,k<A.length→(A++fJ s fl).getD k iN=A.getD k iN:=fun k hk=>by
  rw[List.getD_eq_getElem?_getD,List.getElem?_append_left hk,←List.getD_eq_getElem?_getD]
 have gB:∀k,A.length≤k→(A++fJ s fl).getD k iN=(fJ s fl).getD (k-A.length) iN:=fun k hk=>by
  rw[List.getD_eq_getElem?_getD,List.getElem?_append_right hk,←List.getD_eq_getElem?_getD]
 have at1:∀k,k<A.length→1≤(A.getD k iN).1∧(A.getD k iN).1≤4∧(A.getD k iN).2=(1,L.getD k 0%24,L.getD k 0/24):=fun k hk=>hL.fF k (by omega)
 have inL:∀k,k<L.length→L.getD k 0∈L:=fun k hk=>by
  rw[List.getD_eq_getElem?_getD,List.getElem?_eq_getElem hk];exact List.getElem_mem _
 refine⟨by rw[List.length_append];omega,fun k hk=>?_,fun k n hkn hn=>?_⟩
 ·rw[List.length_append]at hk
  by_cases z:k<A.length
  ·obtain⟨a1,a2,a3⟩:=at1 k z
   obtain⟨b1,b2,b3⟩:=hL.bG _ (inL k (by omega))
   rw[gA k z];refine⟨a1,a2,.inl ?_,.inl (congrArg Prod.fst a3)⟩;have e1:(A.getD k iN).2.1=1:=congrArg Prod.fst a3;have e2:(A.getD k iN).2.2.1=L.getD k 0%24:=congrArg (fun y=>y.2.1) a3
   have e3:(A.getD k iN).2.2.2=L.getD k 0/24:=congrArg (fun y=>y.2.2) a3
   rw[e1,e2,e3,show L.getD k 0/24*24+L.getD k 0%24=L.getD k 0 by omega,b3]
   exact⟨rfl,by omega,by omega,by omega,by omega,by decide⟩
  ·have hj:k-A.length<(fJ s fl).length:=by omega
   rw[gB k (by omega),wat _ hj]
   have d:=(ct s fl (50+((k-A.length:Nat):Int)) 1 3 (by decide) (by decide)).2
   have e:(cN s fl ((k-A.length:Nat):Int)).1=1+dv s fl (50+((k-A.length:Nat):Int)) 1 3:=rfl;refine⟨by omega,by omega,.inr (.inr (.inr ⟨rfl,?_,?_,rfl,by omega⟩)),.inr rfl⟩
   ·show 0≤((k-A.length:Nat):Int)
    omega
   ·show ((k-A.length:Nat):Int)<3
    omega
 ·rw[List.length_append]at hn
  by_cases z:n<A.length
  ·obtain⟨_,_,a3⟩:=at1 k (by omega)
   obtain⟨_,_,b3⟩:=at1 n z;rw[gA k (by omega),gA n z,a3,b3]
   intro e;have e2:L.getD k 0%24=L.getD n 0%24:=congrArg (fun y=>y.2.1) e
   have e3:L.getD k 0/24=L.getD n 0/24:=congrArg (fun y=>y.2.2) e
   have ee:L.getD k 0=L.getD n 0:=by omega
   have hk':k<L.length:=by omega
   have hn':n<L.length:=by omega
   rw[List.getD_eq_getElem?_getD,List.getElem?_eq_getElem hk',List.getD_eq_getElem?_getD,List.getElem?_eq_getElem hn']at ee;exact absurd ((List.getElem_inj hL.one).1 ee) (by omega)
  ·by_cases y:k<A.length
   ·obtain⟨_,_,a3⟩:=at1 k y
    rw[gA k y,gB n (by omega),wat _ (by omega),a3]
    intro e;exact absurd (congrArg Prod.fst e) (by show (1:Int)≠4;decide)
   ·rw[gB k (by omega),gB n (by omega),wat _ (by omega),wat _ (by omega)]
    intro e;have e2:((k-A.length:Nat):Int)=((n-A.length:Nat):Int):=congrArg (fun y=>y.2.1) e
    omega
theorem E5(s fl k:Int){n:Int}(g:GC n)(w:Wk (cells s fl) n):Tk (cells s fl) (entAt s fl k n)∧kd (entAt s fl k n)≠1∧ex (entAt s fl k n)=n%24∧ey (entAt s fl k n)=n/24:=by
 have ps:=rD s fl g w;unfold entAt;split
 ·exact⟨⟨by show 1≤(2:Int)∧(2:Int)≤4;decide,ps,by show 1≤(4:Int)∧(4:Int)≤4;decide,by show (4:Int)=4∧(2:Int)=2∧(0:Int)=0;decide,by show 0≤(0:Int)∧(0:Int)≤9∧0≤(0:Int)∧(0:Int)≤9;decide,fun z=>absurd z (by show (2:Int)≠1;decide),fun _=>rfl⟩,by show (2:Int)≠1;decide,rfl,rfl⟩
 ·exact⟨⟨by show 1≤(3:Int)∧(3:Int)≤4;decide,ps,by show 1≤(9:Int)∧(9:Int)≤9;decide,by show (9:Int)=9∧(4:Int)=4∧(1:Int)=1;decide,by show 0≤(0:Int)∧(0:Int)≤9∧0≤(0:Int)∧(0:Int)≤9;decide,fun z=>absurd z (by show (3:Int)≠1;decide),fun _=>rfl⟩,by show (3:Int)≠1;decide,rfl,rfl⟩
 ·exact⟨⟨by show 1≤(4:Int)∧(4:Int)≤4;decide,ps,by show 1≤(6:Int)∧(6:Int)≤6;decide,by show (6:Int)=6∧(3:Int)=3∧(0:Int)=0;decide,by show 0≤(0:Int)∧(0:Int)≤9∧0≤(0:Int)∧(0:Int)≤9;decide,fun z=>absurd z (by show (4:Int)≠1;decide),fun _=>rfl⟩,by show (4:Int)≠1;decide,rfl,rfl⟩
theorem jI(s fl:Int):∃es,es=(floor s fl).2.1∧es.length≤384∧∀i,i<es.length→Tk (cells s fl) (es.getD i eN)∧kd (es.getD i eN)≠1:=by
 obtain⟨L,hL,_⟩:=Ef s fl (cells s fl) (aF s fl);refine⟨_,rfl,?_⟩;have e0:(floor s fl).2.1=mons s fl (cells s fl) (aF s fl) (fl+2).toNat 0 [] []:=rfl;rw[e0];have hn:L.length≤384:=by
  have:=ma ((List.range 384).map fun i:Nat=>(i:Int)) L hL.one fun x hx=>by
   obtain⟨h1,h2,_⟩:=hL.bG x hx;exact List.mem_map.2 ⟨x.toNat,List.mem_range.2 (by omega),by omega⟩
  rw[List.length_map,List.length_range]at this;exact this
 refine⟨by rw[hL.len];exact hn,fun i hi=>?_⟩
 have hi':i<L.length:=by rw[←hL.len];exact hi
 obtain⟨k,e⟩:=hL.fF i hi';have hm:L.getD i 0∈L:=by
  rw[List.getD_eq_getElem?_getD,List.getElem?_eq_getElem hi'];exact List.getElem_mem _
 obtain⟨a,b,d,_⟩:=hL.bG _ hm;have e':(mons s fl (cells s fl) (aF s fl) (fl+2).toNat 0 [] []).getD i eN=entAt s fl k (L.getD i 0):=e;rw[e'];have t:=E5 s fl k (n:=L.getD i 0) ⟨a,b⟩ ((gF (dq s fl _)).2 (by rw[d];decide))
 exact⟨t.1,t.2.1⟩
end Go.Proofs.YthdgahpomhnidaaGreat.Tp
namespace Go.Proofs.YthdgahpomhnidaaGreat.Tp
open Go Mx Pc Run Field Gen GenL Fl Wd Ft Ln Nav Mn
set_option maxHeartbeats 2000000
theorem Dr(s fl:Int){n:Int}(h:n=aG s fl∨n=aG s fl-1∨n=aG s fl-24∨n=aG s fl-25):GC n∧Wk (cells s fl) n:=by
 have b:=j4 s fl 0;have eu:aG s fl=(iC s fl 0+eE s fl 0/2)*24+(iD s fl 0+eG s fl 0/2):=rfl;have ub:=qo s fl;have gc:GC n:=⟨by omega,by omega⟩
 have hne:(bA s fl).getD n.toNat 0≠0:=by
  rw[gh];split
  ·decide
  ·refine oS s fl 5 _ ?_
   unfold bh;rw[decide_eq_true_eq];omega
 refine⟨gc,(iU s fl n).2 ?_⟩;have v:=fv s fl n.toNat;rw[gF (by omega)];exact hne
theorem GO(s fl:Int){p:List ag}(hl:p.length=32){m:Int}(hm:m≤3)(hs:∀i,i<32→kd (p.getD i eN)≠0→0≤st (p.getD i eN)∧st (p.getD i eN)<m)
  (hu:∀i j,i<32→j<32→kd (p.getD i eN)≠0→kd (p.getD j eN)≠0→st (p.getD i eN)=st (p.getD j eN)→i=j):∃n,(n=aG s fl∨n=aG s fl-1∨n=aG s fl-24∨n=aG s fl-25)∧cg p (n%24) (n/24)<0:=by
 refine Classical.byContradiction fun hn=>?_
 have key:∀n,(n=aG s fl∨n=aG s fl-1∨n=aG s fl-24∨n=aG s fl-25)→∃r:Nat,r<32∧kd (p.getD r eN)≠0∧ex (p.getD r eN)=n%24∧ey (p.getD r eN)=n/24:=fun n hq=>by
  obtain⟨r,h1,_,h2,h3,h4⟩:=BX hl (x:=n%24) (y:=n/24) (Int.not_lt.1 fun z=>hn ⟨n,hq,z⟩)
  exact⟨r,h1,h2,h3,h4⟩
 obtain⟨r0,a0,k0,x0,y0⟩:=key _ (.inl rfl);obtain⟨r1,a1,k1,x1,y1⟩:=key _ (.inr (.inl rfl));obtain⟨r2,a2,k2,x2,y2⟩:=key _ (.inr (.inr (.inl rfl)));obtain⟨r3,a3,k3,x3,y3⟩:=key _ (.inr (.inr (.inr rfl)));have s0:=hs r0 a0 k0;have s1:=hs r1 a1 k1;have s2:=hs r2 a2 k2;have s3:=hs r3 a3 k3;have p6:st (p.getD r0 eN)=st (p.getD r1 eN)∨st (p.getD r0 eN)=st (p.getD r2 eN)∨st (p.getD r0 eN)=st (p.getD r3 eN)∨st (p.getD r1 eN)=st (p.getD r2 eN)∨st (p.getD r1 eN)=st (p.getD r3 eN)∨st (p.getD r2 eN)=st (p.getD r3 eN):=by omega
 rcases p6 with q | q | q | q | q | q
 ·have:=hu _ _ a0 a1 k0 k1 q;subst this;omega
 ·have:=hu _ _ a0 a2 k0 k2 q;subst this;omega
 ·have:=hu _ _ a0 a3 k0 k3 q;subst this;omega
 ·have:=hu _ _ a1 a2 k1 k2 q;subst this;omega
 ·have:=hu _ _ a1 a3 k1 k3 q;subst this;omega
 ·have:=hu _ _ a2 a3 k2 k3 q;subst this;omega
structure PH (l:List ag):Prop where
 len:l.length=32
 gen:∀i,i<32→0≤gn (l.getD i eN)∧gn (l.getD i eN)<256
 free:∀i,i<32→kd (l.getD i eN)=0→l.getD i eN=cO (l.getD i eN)
 rL:∀i,i<32→kd (l.getD i eN)≠0→kd (l.getD i eN)=1∧(1≤hp (l.getD i eN)∧hp (l.getD i eN)≤bE (l.getD i eN))∧(bE (l.getD i eN)=20∧c8 (l.getD i eN)=5∧df (l.getD i eN)=1)∧(0≤po (l.getD i eN)∧po (l.getD i eN)≤9∧0≤sn (l.getD i eN)∧sn (l.getD i eN)≤9)∧0≤st (l.getD i eN)∧st (l.getD i eN)<4
 fq:∀i j,i<32→j<32→kd (l.getD i eN)=1→kd (l.getD j eN)=1→st (l.getD i eN)=st (l.getD j eN)→i=j
structure SI (c:List Int) (n:Int) (l p:List ag):Prop where
 ph:PH l
 pl:p.length=32
 pg:∀i,i<32→p.getD i eN=if kd (l.getD i eN)=1∧st (l.getD i eN)<n then l.getD i eN else eN
 pos:∀i,i<32→kd (l.getD i eN)=1→st (l.getD i eN)<n→0≤ex (l.getD i eN)∧ex (l.getD i eN)<24∧0≤ey (l.getD i eN)∧ey (l.getD i eN)<16∧c.getD (ey (l.getD i eN)*24+ex (l.getD i eN)).toNat 0≠0
 apart:∀i j,i<32→j<32→kd (l.getD i eN)=1→kd (l.getD j eN)=1→st (l.getD i eN)<n→st (l.getD j eN)<n→ex (l.getD i eN)=ex (l.getD j eN)→ey (l.getD i eN)=ey (l.getD j eN)→i=j
theorem SI.taken{c:List Int}{n:Int}{l p:List ag}(h:SI c n l p){i:Nat}(hi:i<32)(hk:kd (p.getD i eN)≠0):kd (l.getD i eN)=1∧st (l.getD i eN)<n∧p.getD i eN=l.getD i eN:=by
 have e:=h.pg i hi
 by_cases q:kd (l.getD i eN)=1∧st (l.getD i eN)<n
 ·rw[if_pos q]at e;exact⟨q.1,q.2,e⟩
 ·rw[if_neg q]at e;rw[e]at hk;exact absurd rfl hk
theorem SI.done{c:List Int}{l p:List ag}(h:SI c 4 l p):EI c l:=by
 have k1:∀i,i<32→kd (l.getD i eN)≠0→kd (l.getD i eN)=1∧st (l.getD i eN)<4:=fun i hi hk=>by
  have:=h.ph.rL i hi hk;exact⟨this.1,this.2.2.2.2.2⟩
 refine⟨h.ph.len,h.ph.gen,h.ph.free,fun i hi hk=>?_,fun i j hi hj h1 h2=>?_,h.ph.fq⟩
 ·obtain⟨a1,a2,a3,a4,a5⟩:=h.ph.rL i hi hk
  have ps:=h.pos i hi a1 a5.2;refine⟨by omega,ps,a2,?_,a4,fun _=>a5,fun z=>absurd a1 z⟩
  rw[a1];exact a3
 ·exact h.apart i j hi hj (k1 i hi h1).1 (k1 j hj h2).1 (k1 i hi h1).2 (k1 j hj h2).2
theorem SI.skip{c:List Int}{n:Nat}{l p:List ag}(h:SI c n l p)(hn:∀i,i<32→kd (l.getD i eN)=1→st (l.getD i eN)≠n):SI c ((n+1:Nat):Int) l p:=by
 have lt:∀i,i<32→kd (l.getD i eN)=1→st (l.getD i eN)<((n+1:Nat):Int)→st (l.getD i eN)<n:=fun i hi hk hs=>by
  have:=hn i hi hk;omega
 refine⟨h.ph,h.pl,fun i hi=>?_,fun i hi hk hs=>h.pos i hi hk (lt i hi hk hs),fun i j hi hj h1 h2 h3 h4=>h.apart i j hi hj h1 h2 (lt i hi h1 h3) (lt j hj h2 h4)⟩
 rw[h.pg i hi]
 by_cases q:kd (l.getD i eN)=1∧st (l.getD i eN)<n
 ·rw[if_pos q,if_pos ⟨q.1,by omega⟩]
 ·rw[if_neg q,if_neg fun z=>q ⟨z.1,lt i hi z.1 z.2⟩]
theorem SI.move{c:List Int}{n:Nat}{l p:List ag}(h:SI c n l p){k:Nat}(hk:k<32)(h1:kd (l.getD k eN)=1)(hs:st (l.getD k eN)=n){x y:Int}(hp':0≤x∧x<24∧0≤y∧y<16∧c.getD (y*24+x).toNat 0≠0)(ha:cg p x y<0) :
  SI c ((n+1:Nat):Int) (l.set k (fH (l.getD k eN) x y)) (p.set k (fH (l.getD k eN) x y)):=by
 have hl:=h.ph.len;have hpl:=h.pl;have no:=(mg hpl).1 ha;have g:∀i,(l.set k (fH (l.getD k eN) x y)).getD i eN=if k=i then fH (l.getD k eN) x y else l.getD i eN:=fun i=>bn _ _ _ _ _ (by omega)
 have gp:∀i,(p.set k (fH (l.getD k eN) x y)).getD i eN=if k=i then fH (l.getD k eN) x y else p.getD i eN:=fun i=>bn _ _ _ _ _ (by omega)
 have ek:kd (fH (l.getD k eN) x y)=1:=h1;have es:st (fH (l.getD k eN) x y)=n:=hs;have lt:∀i,i<32→k≠i→kd (l.getD i eN)=1→st (l.getD i eN)<((n+1:Nat):Int)→st (l.getD i eN)<n:=fun i hi ne hk' hs'=>by
  have:st (l.getD i eN)≠n:=fun z=>ne (h.ph.fq k i hk hi h1 hk' (by rw[hs,z]))
  omega
 have off:∀i,i<32→k≠i→kd (l.getD i eN)=1→st (l.getD i eN)<((n+1:Nat):Int)→¬(ex (l.getD i eN)=x∧ey (l.getD i eN)=y):=fun i hi ne hk' hs'=>by
  have e:=h.pg i hi;rw[if_pos ⟨hk',lt i hi ne hk' hs'⟩]at e;have:=no i hi (by rw[e,hk'];decide)
  rw[e]at this;exact this
 refine⟨⟨by rw[List.length_set];exact hl,fun i hi=>?_,fun i hi=>?_,fun i hi=>?_,fun i j hi hj=>?_⟩,by rw[List.length_set];exact hpl,fun i hi=>?_,fun i hi=>?_,fun i j hi hj=>?_⟩
 ·rw[g];split
  ·exact h.ph.gen k hk
  ·exact h.ph.gen i hi
 ·rw[g];split
  ·intro z;rw[ek]at z;exact absurd z (by decide)
  ·exact h.ph.free i hi
 ·rw[g];split
  ·exact fun _=>h.ph.rL k hk (by rw[h1];decide)
  ·exact h.ph.rL i hi
 ·rw[g,g]
  by_cases e1:k=i
  ·by_cases e2:k=j
   ·intros;omega
   ·rw[if_pos e1,if_neg e2]
    intro _ z w;exact absurd (h.ph.fq k j hk hj h1 z w) e2
  ·by_cases e2:k=j
   ·rw[if_neg e1,if_pos e2]
    intro z _ w;exact absurd (h.ph.fq k i hk hi h1 z w.symm) e1
   ·rw[if_neg e1,if_neg e2]
    exact h.ph.fq i j hi hj
 ·rw[g,gp]
  by_cases e1:k=i
  ·rw[if_pos e1,if_pos e1,if_pos ⟨ek,by rw[es];omega⟩]
  ·rw[if_neg e1,if_neg e1,h.pg i hi]
   by_cases q:kd (l.getD i eN)=1∧st (l.getD i eN)<n
   ·rw[if_pos q,if_pos ⟨q.1,by omega⟩]
   ·rw[if_neg q,if_neg fun z=>q ⟨z.1,lt i hi e1 z.1 z.2⟩]
 ·rw[g];split
  ·exact fun _ _=>hp'
  ·rename_i e1
   exact fun a b=>h.pos i hi a (lt i hi e1 a b)
 ·rw[g,g]
  by_cases e1:k=i
  ·by_cases e2:k=j
   ·intros;omega
   ·rw[if_pos e1,if_neg e2]
    intro _ z1 _ z2 w1 w2;exact absurd ⟨w1.symm,w2.symm⟩ (off j hj e2 z1 z2)
  ·by_cases e2:k=j
   ·rw[if_neg e1,if_pos e2]
    intro z1 _ z2 _ w1 w2;exact absurd ⟨w1,w2⟩ (off i hi e1 z1 z2)
   ·rw[if_neg e1,if_neg e2]
    exact fun z1 z2 z3 z4=>h.apart i j hi hj z1 z2 (lt i hi e1 z1 z3) (lt j hj e2 z2 z4)
theorem SI.zero{c:List Int}{l:List ag}(h:PH l):SI c 0 l (List.replicate 32 eN):=by
 have st0:∀i,i<32→kd (l.getD i eN)=1→¬st (l.getD i eN)<0:=fun i hi hk z=>by
  have:=(h.rL i hi (by rw[hk];decide)).2.2.2.2.1
  omega
 refine⟨h,List.length_replicate,fun i hi=>?_,fun i hi hk hs=>absurd hs (st0 i hi hk),fun i j hi hj h1 _ h3=>absurd h3 (st0 i hi h1)⟩
 rw[if_neg fun z=>st0 i hi z.1 z.2,List.getD_eq_getElem?_getD,List.getElem?_replicate]
 split<;>rfl
noncomputable def vc(s fl:Int)(p:List ag×List ag)(n:Nat):List ag×List ag :=
 if ai p.1 n<0 then p
 else (p.1.set (ai p.1 n).toNat (fH (p.1.getD (ai p.1 n).toNat eN) (aZ (cells s fl) p.2 (aG s fl)%24) (aZ (cells s fl) p.2 (aG s fl)/24)),p.2.set (ai p.1 n).toNat (fH (p.1.getD (ai p.1 n).toNat eN) (aZ (cells s fl) p.2 (aG s fl)%24) (aZ (cells s fl) p.2 (aG s fl)/24)))
noncomputable def gL(s fl:Int)(l:List ag)(n:Nat):List ag×List ag:=(List.range n).foldl (vc s fl) (l,List.replicate 32 eN)
theorem kI(s fl:Int)(l:List ag)(n:Nat):gL s fl l (n+1)=vc s fl (gL s fl l n) n:=by
 unfold gL;rw[List.range_succ,List.foldl_append];rfl
theorem rf(s fl:Int)(h1:1≤fl)(h2:fl≤3){l1 p:List ag}{n:Nat}(hn:n<4)(hS:SI (cells s fl) n l1 p):cM p∧(¬ai l1 n<0→0≤aZ (cells s fl) p (aG s fl))∧SI (cells s fl) ((n+1:Nat):Int) (vc s fl (l1,p) n).1 (vc s fl (l1,p) n).2:=by
 have hl:=hS.ph.len;have hpl:=hS.pl;have hE:cM p:=⟨hpl,fun i hi=>by
  by_cases k:kd (p.getD i eN)=0
  ·exact .inl k
  ·obtain⟨t1,t2,t3⟩:=hS.taken (by omega) k
   have:=hS.pos i (by omega) t1 t2
   rw[t3];exact .inr ⟨this.1,this.2.1,this.2.2.1,this.2.2.2.1⟩⟩
 obtain⟨e1,e2,e3⟩:=jO (bX s fl) hE (cG s fl);obtain⟨n4,hq4,ha4⟩:=GO s fl hpl (m:=n) (by omega) (fun i hi k=>by
   obtain⟨t1,t2,t3⟩:=hS.taken hi k;rw[t3];exact⟨(hS.ph.rL i hi (by rw[t1];decide)).2.2.2.2.1,t2⟩) (fun i j hi hj k1 k2 es=>by
   obtain⟨t1,t2,t3⟩:=hS.taken hi k1;obtain⟨u1,u2,u3⟩:=hS.taken hj k2;rw[t3,u3]at es;exact hS.ph.fq i j hi hj t1 u1 es)
 have hge:0≤aZ (cells s fl) p (aG s fl):=e3 n4 ((reach s fl h1 (by omega)).1 n4 (Dr s fl hq4).1 (Dr s fl hq4).2) ha4
 refine⟨hE,fun _=>hge,?_⟩
 unfold vc
 by_cases q1:ai l1 n<0
 ·rw[if_pos q1]
  refine hS.skip fun i hi hk hs=>?_
  have:=du.1 q1 i (by omega)
  unfold bC at this;rw[hk,hs]at this;simp at this
 ·obtain⟨r,hr,er,hk,hst,_⟩:=cI hl q1
  obtain⟨b1,b2,b3⟩:=e2.resolve_left (by omega)
  rw[if_neg q1];dsimp only;rw[er,Int.toNat_natCast];exact hS.move hr hk hst (rD s fl b1 b2) b3
theorem nM(s fl:Int)(h1:1≤fl)(h2:fl≤3){l:List ag}(hP:PH l):∀n:Nat,n≤4→SI (cells s fl) n (gL s fl l n).1 (gL s fl l n).2
 | 0,_=>SI.zero hP
 | n+1,hn=>by
  rw[kI];exact(rf s fl h1 h2 (by omega) (nM s fl h1 h2 hP n (by omega))).2.2
section
variable (s fr fl sta g0 g1 g2 g3:Int) (was left:Bool)
theorem sU(h1:1≤fl)(h2:fl≤3){l:List ag}(its:List ak)(hP:PH l):OK (f100 s fr fl sta g0 g1 g2 g3 was left (cells s fl) l its) fun z=>∃l',z=(s,fr,fl,sta,g0,g1,g2,g3,was,left,cells s fl,l',its,())∧EI (cells s fl) l'∧l'=(gL s fl l 4).1:=by
 unfold f100 f100.L1;rw[yv];simp only[Option.bind_some];refine OK.loop (fun n:Nat=>(aG s fl%24,aG s fl/24,(n:Int),s,fr,fl,sta,g0,g1,g2,g3,was,left,cells s fl,(gL s fl l n).1,its,(gL s fl l n).2,())) (fun n=>n≤4) (fun n=>4-n) (fun rec n hn ih=>?_) 0 rfl (Nat.zero_le _) (by decide)
 have hS:=nM s fl h1 h2 hP n hn;dsimp only at ih ⊢
 by_cases q:n<4
 ·have nx:=ih (n+1) (by omega) (by omega) _ rfl
  obtain⟨hE,hge,_⟩:=rf s fl h1 h2 q hS;rw[kI]at nx;generalize gL s fl l n=P at *
  obtain⟨l1,p⟩:=P;dsimp only at hS hE hge nx ⊢;have hl:=hS.ph.len;have hpl:=hS.pl;obtain⟨e1,e2,_⟩:=jO (bX s fl) hE (cG s fl);rw[af,if_pos (by omega),gY l1 hl,wr (x:=(n:Int)+1) (by omega)]
  simp only[Option.bind_some];rw[af];unfold vc at nx
  by_cases q1:ai l1 n<0
  ·rw[if_pos q1]at nx ⊢
   exact nx
  ·have hge:=hge q1
   obtain⟨r,hr,er,hk,hst,_⟩:=cI hl q1;obtain⟨b1,b2,b3⟩:=e2.resolve_left (by omega)
   rw[if_neg q1]at nx;dsimp only at nx;rw[er,Int.toNat_natCast]at nx;generalize aZ (cells s fl) p (aG s fl)=t at e1 b1 b2 b3 hge nx;have b1':=b1;unfold GC at b1';rw[if_neg q1,er,ao (by omega),cond_true,e1]
   simp only[Option.bind_some,Int.toNat_natCast];rw[decide_eq_true (by omega),cond_true,Int.tmod_eq_emod_of_nonneg (by omega),Int.tdiv_eq_ediv_of_nonneg (by omega),wr (x:=t/24) (by omega)]
   simp only[Option.bind_some,Sum.elim_inl,Int.toNat_natCast];rw[ao (by omega),cond_true,wr (x:=(n:Int)+1) (by omega)]
   have g1:∀a:ag,(l1.set r a).getD r eN=a:=fun a=>by rw[bn _ _ _ _ _ (by omega),if_pos rfl]
   have g1':∀a:ag,(l1.set r a).getD r Run.zE=a:=g1
   rw[g1',List.set_set];simp only[g1'];exact nx
 ·have:n=4:=by omega
  subst this;rw[af,if_neg (by omega)]
  exact OK.ret ⟨_,rfl,hS.done,rfl⟩
end
end Go.Proofs.YthdgahpomhnidaaGreat.Tp
namespace Go.Proofs.YthdgahpomhnidaaGreat.Tp
open Go Mx Pc Run Field Gen GenL Fl Wd Ft Ln Nav Mn
set_option maxHeartbeats 2000000
structure IP (its:List ak):Prop where
 ok:∀c,aH c its
 off:∀i,i<40→(its.getD i iN).2.1≠1∧(its.getD i iN).2.1≠4
noncomputable def mK(l:List ag)(es:List ag):List ag:=es.foldl (fun l e=>if cg l (ex e) (ey e)<0 then spP l e else l) l
theorem pT(l es:List ag){n:Nat}(h:n<es.length):mK l (es.take (n+1))=if cg (mK l (es.take n)) (ex (es.getD n eN)) (ey (es.getD n eN))<0 then spP (mK l (es.take n)) (es.getD n eN) else mK l (es.take n):=by
 unfold mK;rw[List.take_succ_eq_append_getElem h,List.foldl_append,List.getD_eq_getElem?_getD,List.getElem?_eq_getElem h];rfl
noncomputable def me(its more:List ak):List ak:=((f102 its more).getD ([],())).1
noncomputable def iz(s fl:Int)(l:List ag)(its:List ak):List ag×List ak:=(mK (gL s fl l 4).1 (floor s fl).2.1,me its (floor s fl).2.2.1)
section
variable (s fr fl sta g0 g1 g2 g3:Int) (was left:Bool)
theorem uf{c:List Int}{l:List ag}(h:EI c l){e:ag}(ht:Tk c e)(hk:kd e≠1):EI c (if cg l (ex e) (ey e)<0 then spP l e else l):=by
 split
 ·rename_i q
  exact vD h ht q (fun z=>absurd z hk)
 ·exact h
theorem yp(h1:1≤fl)(h2:fl≤3){l:List ag}{its:List ak}(hP:PH l)(hI:IP its):OK (f52 s fr fl sta g0 g1 g2 g3 was left l its) fun z=>∃i0 l' its',z=(s,fr,fl,sta,g0,g1,g2,g3,was,left,i0,cells s fl,l',its',())∧EI (cells s fl) l'∧aH (cells s fl) its'∧(l',its')=iz s fl l its:=by
 unfold f52 f52.L1;obtain⟨es,ees,hes,hmon⟩:=jI s fl;obtain⟨more,em,hm7,hm,hd⟩:=je s fl;unfold iz;rw[xn s fl h1 h2,←ees,←em,show (floor s fl).1=cells s fl from rfl]
 simp only[Option.bind_some];refine OK.aD (sU s fr fl sta g0 g1 g2 g3 was left h1 h2 its hP) fun z hz=>?_
 obtain⟨l0,rfl,hE0,hl0⟩:=hz;rw[←hl0];dsimp only;refine OK.loop (fun j:Nat×List ag=>((es.length:Int),(j.1:Int),s,fr,fl,sta,g0,g1,g2,g3,was,left,its,es,cells s fl,j.2,more,())) (fun j=>j.1≤es.length∧EI (cells s fl) j.2∧j.2=mK l0 (es.take j.1)) (fun j=>es.length-j.1) (fun rec j hj ih=>?_) (0,l0) rfl ⟨Nat.zero_le _,hE0,rfl⟩ (by dsimp only;omega)
 obtain⟨n,l1⟩:=j;obtain⟨hn,hE,hF⟩:=hj;dsimp only at hn hE hF ih ⊢;rw[af]
 by_cases q:n<es.length
 ·obtain⟨ht,hk⟩:=hmon n q
  have nx:=ih (n+1,if cg l1 (ex (es.getD n eN)) (ey (es.getD n eN))<0 then spP l1 (es.getD n eN) else l1) ⟨by dsimp only;omega,uf hE ht hk,by dsimp only;rw[pT l0 es q,←hF]⟩ (by dsimp only;omega) _ rfl
  have aE:=j8 l1 hE.len (ex (es.getD n eN)) (ey (es.getD n eN));have k:=tB s fr fl sta g0 g1 g2 g3 was left hE its (es.getD n eN) ht.kind;rw[if_pos (by omega),ao (by omega),cond_true,wr (x:=(n:Int)+1) (by omega),Int.toNat_natCast]
  refine OK.call aE ?_;dsimp only at nx ⊢;rw[af]
  by_cases p:cg l1 (ex (es.getD n eN)) (ey (es.getD n eN))<0
  ·rw[if_pos p]at nx ⊢
   refine OK.call k ?_;exact nx
  ·rw[if_neg p]at nx ⊢
   exact nx
 ·rw[if_neg (by omega)]
  obtain⟨z,ez,hz⟩:=AD (hI.ok (cells s fl)) hI.off (more:=more) (by omega) hm hd
  have hlay:me its more=z.1:=by unfold me;rw[ez];rfl
  rw[ez];refine OK.ret ⟨its,l1,z.1,rfl,hE,hz,?_⟩;rw[hlay,hF,List.take_of_length_le (by omega)]
theorem wc(h1:1≤fl)(h2:fl≤3)(c0:List Int){l:List ag}{its:List ak}(hP:PH l)(hI:IP its):OK (f52_1 s fr fl sta g0 g1 g2 g3 was left c0 l its) fun z=>∃i0 l' its',z=(s,fr,fl,sta,g0,g1,g2,g3,was,left,c0,i0,cells s fl,l',its',())∧EI (cells s fl) l'∧aH (cells s fl) its'∧(l',its')=iz s fl l its:=by
 unfold f52_1 f52_1.L1;obtain⟨es,ees,hes,hmon⟩:=jI s fl;obtain⟨more,em,hm7,hm,hd⟩:=je s fl;unfold iz;rw[xn s fl h1 h2,←ees,←em,show (floor s fl).1=cells s fl from rfl]
 simp only[Option.bind_some];refine OK.aD (sU s fr fl sta g0 g1 g2 g3 was left h1 h2 its hP) fun z hz=>?_
 obtain⟨l0,rfl,hE0,hl0⟩:=hz;rw[←hl0];dsimp only;refine OK.loop (fun j:Nat×List ag=>((es.length:Int),(j.1:Int),s,fr,fl,sta,g0,g1,g2,g3,was,left,c0,its,es,cells s fl,j.2,more,())) (fun j=>j.1≤es.length∧EI (cells s fl) j.2∧j.2=mK l0 (es.take j.1)) (fun j=>es.length-j.1) (fun rec j hj ih=>?_) (0,l0) rfl ⟨Nat.zero_le _,hE0,rfl⟩ (by dsimp only;omega)
 obtain⟨n,l1⟩:=j;obtain⟨hn,hE,hF⟩:=hj;dsimp only at hn hE hF ih ⊢;rw[af]
 by_cases q:n<es.length
 ·obtain⟨ht,hk⟩:=hmon n q
  have nx:=ih (n+1,if cg l1 (ex (es.getD n eN)) (ey (es.getD n eN))<0 then spP l1 (es.getD n eN) else l1) ⟨by dsimp only;omega,uf hE ht hk,by dsimp only;rw[pT l0 es q,←hF]⟩ (by dsimp only;omega) _ rfl
  have aE:=j8 l1 hE.len (ex (es.getD n eN)) (ey (es.getD n eN));have k:=tB s fr fl sta g0 g1 g2 g3 was left hE its (es.getD n eN) ht.kind;rw[if_pos (by omega),ao (by omega),cond_true,wr (x:=(n:Int)+1) (by omega),Int.toNat_natCast]
  refine OK.call aE ?_;dsimp only at nx ⊢;rw[af]
  by_cases p:cg l1 (ex (es.getD n eN)) (ey (es.getD n eN))<0
  ·rw[if_pos p]at nx ⊢
   refine OK.call k ?_;exact nx
  ·rw[if_neg p]at nx ⊢
   exact nx
 ·rw[if_neg (by omega)]
  obtain⟨z,ez,hz⟩:=AD (hI.ok (cells s fl)) hI.off (more:=more) (by omega) hm hd
  have hlay:me its more=z.1:=by unfold me;rw[ez];rfl
  rw[ez];refine OK.ret ⟨its,l1,z.1,rfl,hE,hz,?_⟩;rw[hlay,hF,List.take_of_length_le (by omega)]
end
theorem DU:PH (List.replicate 32 eN):=by
 have g:∀i,(List.replicate 32 eN).getD i eN=eN:=fun i=>by
  rw[List.getD_eq_getElem?_getD,List.getElem?_replicate];split<;>rfl
 refine⟨List.length_replicate,fun i hi=>?_,fun i hi _=>?_,fun i hi hk=>?_,fun i j hi hj hk=>?_⟩
 ·rw[g];decide
 ·rw[g];rfl
 ·rw[g]at hk;exact absurd rfl hk
 ·rw[g]at hk;exact absurd hk (by decide)
theorem DH:IP (List.replicate 40 iN):=⟨fun c=>aH.none c,fun i hi=>by
 have g:(List.replicate 40 iN).getD i iN=iN:=by
  rw[List.getD_eq_getElem?_getD,List.getElem?_replicate];split<;>rfl
 rw[g];decide⟩
theorem yO(s:Int):OK (f19 s) fun z=>∃l its,z=(s,0,1,0,0,0,0,0,cells s 1,l,its,())∧WO (cells s 1) l its 0 0 0 0∧(l,its)=iz s 1 (List.replicate 32 eN) (List.replicate 40 iN):=by
 unfold f19;refine OK.aD (yp s 0 1 0 0 0 0 0 false false (by decide) (by decide) DU DH) fun z hz=>?_
 obtain⟨i0,l,its,rfl,hE,hI,hF⟩:=hz;exact OK.ret ⟨l,its,rfl,⟨hE,hI,by unfold Gd.jg;decide⟩,hF⟩
def cu(e:ag):ag:=if kd e≠0∧kd e≠1 then cO e else e
theorem wN{l l':List ag}(hl:l.length=32)(hl':l'.length=32)(g:∀i,i<32→l'.getD i eN=cu (l.getD i eN)):l'=l.map cu:=by
 refine List.ext_getElem? fun i=>?_
 rw[List.getElem?_map]
 by_cases q:i<32
 ·have:=g i q
  rw[List.getD_eq_getElem?_getD,List.getElem?_eq_getElem (by omega),List.getD_eq_getElem?_getD,List.getElem?_eq_getElem (by omega)]at this
  rw[List.getElem?_eq_getElem (by omega),List.getElem?_eq_getElem (by omega)]
  exact congrArg some this
 ·rw[List.getElem?_eq_none (by omega),List.getElem?_eq_none (by omega)]
  rfl
def iH(x:ak):ak:=if x.2.1=1∨x.2.1=4 then iN else x
theorem tQ{l l':List ak}(hl:l.length=40)(hl':l'.length=40)(g:∀i,i<40→l'.getD i iN=iH (l.getD i iN)):l'=l.map iH:=by
 refine List.ext_getElem? fun i=>?_
 rw[List.getElem?_map]
 by_cases q:i<40
 ·have:=g i q
  rw[List.getD_eq_getElem?_getD,List.getElem?_eq_getElem (by omega),List.getD_eq_getElem?_getD,List.getElem?_eq_getElem (by omega)]at this
  rw[List.getElem?_eq_getElem (by omega),List.getElem?_eq_getElem (by omega)]
  exact congrArg some this
 ·rw[List.getElem?_eq_none (by omega),List.getElem?_eq_none (by omega)]
  rfl
theorem uX{c:List Int}{l l':List ag}(h:EI c l)(hl:l'.length=32)(g:∀i,i<32→l'.getD i eN=cu (l.getD i eN)):PH l':=by
 have one:∀i,i<32→kd (l'.getD i eN)≠0→kd (l.getD i eN)=1∧l'.getD i eN=l.getD i eN:=fun i hi hk=>by
  have e:=g i hi;unfold cu at e
  by_cases q:kd (l.getD i eN)≠0∧kd (l.getD i eN)≠1
  ·rw[if_pos q]at e;rw[e]at hk;exact absurd rfl hk
  ·rw[if_neg q]at e
   rw[e]at hk ⊢;exact⟨Classical.byContradiction fun z=>q ⟨hk,z⟩,rfl⟩
 refine⟨hl,fun i hi=>?_,fun i hi hk=>?_,fun i hi hk=>?_,fun i j hi hj h1 h2 h3=>?_⟩
 ·rw[g i hi]
  unfold cu;split
  ·exact h.gen i hi
  ·exact h.gen i hi
 ·have e:=g i hi
  unfold cu at e
  by_cases q:kd (l.getD i eN)≠0∧kd (l.getD i eN)≠1
  ·rw[if_pos q]at e;rw[e];rfl
  ·rw[if_neg q]at e
   rw[e]at hk ⊢;exact h.free i hi hk
 ·obtain⟨a,b⟩:=one i hi hk
  have t:=h.taken i hi (by rw[a];decide)
  have ts:=t.stats;rw[a]at ts;rw[b];exact⟨a,t.dT,ts,t.cR,t.aJ.1 a⟩
 ·obtain⟨a1,b1⟩:=one i hi (by rw[h1];decide)
  obtain⟨a2,b2⟩:=one j hj (by rw[h2];decide)
  rw[b1,b2]at h3;exact h.fq i j hi hj a1 a2 h3
theorem E6{c:List Int}{its its':List ak}(h:aH c its)(hl:its'.length=40)(g:∀i,i<40→its'.getD i iN=if (its.getD i iN).2.1=1∨(its.getD i iN).2.1=4 then iN else its.getD i iN):IP its':=by
 have off:∀i,i<40→(its'.getD i iN).2.1≠1∧(its'.getD i iN).2.1≠4:=fun i hi=>by
  rw[g i hi];split
  ·decide
  ·rename_i q
   exact⟨fun z=>q (.inl z),fun z=>q (.inr z)⟩
 refine⟨fun c'=>⟨hl,fun i hi=>?_,fun i j hi hj hne he=>?_⟩,off⟩
 ·have o:=off i hi
  rw[g i hi]at o ⊢;split
  ·exact .inl rfl
  ·rename_i q
   rw[if_neg q]at o;rcases h.kind i hi with k | ⟨k1,k2,k3⟩
   ·exact .inl k
   ·refine .inr ⟨k1,k2,?_⟩
    unfold cQ at k3 ⊢;rcases k3 with z | z | z | z
    ·exact absurd z.1 o.1
    ·exact .inr (.inl z)
    ·exact .inr (.inr (.inl z))
    ·exact absurd z.1 o.2
 ·rw[g i hi]at hne
  split at hne
  ·exact absurd rfl hne
  ·rename_i q
   rw[g i hi,if_neg q,g j hj]at he;split at he
   ·have w:=h.kind i hi
    rcases w with w | w
    ·exact absurd w hne
    ·have:=w.2.2.wh
     have e:(its.getD i iN).2.1=0:=congrArg Prod.fst he;omega
   ·exact h.one i j hi hj hne he
section
variable (s fr fl sta g0 g1 g2 g3:Int) (was left:Bool)
theorem AS{c:List Int}{l:List ag}(h:EI c l)(its:List ak)(cur:List ag)(n:Nat)(hn:n≤32)(hc:cur.length=32)(hg:∀i,i<32→cur.getD i eN=if i<n then cu (l.getD i eN) else l.getD i eN) :
  OK (f60.L1 ((l.length:Int),(n:Int),s,fr,fl,sta,g0,g1,g2,g3,was,left,l,c,cur,its,())) fun z=>∃l',z=.inl (s,fr,fl,sta,g0,g1,g2,g3,was,left,c,l',its,())∧PH l'∧l'=l.map cu:=by
 have hl:=h.len;unfold f60.L1;refine OK.loop (fun j:Nat×List ag=>((l.length:Int),(j.1:Int),s,fr,fl,sta,g0,g1,g2,g3,was,left,l,c,j.2,its,())) (fun j=>j.1≤32∧j.2.length=32∧∀i,i<32→j.2.getD i eN=if i<j.1 then cu (l.getD i eN) else l.getD i eN) (fun j=>32-j.1) (fun rec j hj ih=>?_) (n,cur) rfl ⟨hn,hc,hg⟩ (by dsimp only;omega)
 clear hc hg hn;obtain⟨n,cur⟩:=j;obtain⟨hn,hc,hg⟩:=hj;dsimp only at hn hc hg ih ⊢;rw[af]
 by_cases q:n<32
 ·have eK:(l.getD n Run.zE).1=kd (l.getD n eN):=rfl
  have gn:=hg n q;rw[if_neg (Nat.lt_irrefl n)]at gn;rw[if_pos (by omega),ao (by omega),cond_true,wr (x:=(n:Int)+1) (by omega),Int.toNat_natCast,eK]
  have same:cu (l.getD n eN)=l.getD n eN→OK (rec ((l.length:Int),((n+1:Nat):Int),s,fr,fl,sta,g0,g1,g2,g3,was,left,l,c,cur,its,())) fun z=>∃l',z=.inl (s,fr,fl,sta,g0,g1,g2,g3,was,left,c,l',its,())∧PH l'∧l'=l.map cu:=fun e=>by
   refine ih (n+1,cur) ⟨by dsimp only;omega,hc,fun i hi=>?_⟩ (by dsimp only;omega) _ rfl
   dsimp only;rw[hg i hi]
   by_cases z:i<n
   ·rw[if_pos z,if_pos (by omega)]
   ·rw[if_neg z]
    by_cases w:i<n+1
    ·rw[if_pos w,show i=n by omega,e]
    ·rw[if_neg w]
  by_cases k0:kd (l.getD n eN)=0
  ·rw[show (kd (l.getD n eN) !=0)=false from by rw[k0];rfl,cond_false]
   exact same (if_neg fun z=>z.1 k0)
  ·rw[bne_iff_ne.2 k0,cond_true]
   by_cases k1:kd (l.getD n eN)=1
   ·rw[show (kd (l.getD n eN) !=1)=false from by rw[k1];rfl,cond_false]
    exact same (if_neg fun z=>z.2 k1)
   ·rw[bne_iff_ne.2 k1,cond_true,rP hc (bS.2 ⟨by omega,by omega,by rw[Int.toNat_natCast,gn];exact k0⟩)]
    simp only[Option.bind_some,Int.toNat_natCast];refine ih (n+1,cur.set n (cO (cur.getD n eN))) ⟨by dsimp only;omega,by rw[List.length_set];exact hc,fun i hi=>?_⟩ (by dsimp only;omega) _ rfl
    dsimp only;rw[bn _ _ _ _ _ (by omega)]
    by_cases e:n=i
    ·subst e
     rw[if_pos rfl,if_pos (by omega),gn]
     exact(if_pos ⟨k0,k1⟩).symm
    ·rw[if_neg e,hg i hi]
     by_cases z:i<n
     ·rw[if_pos z,if_pos (by omega)]
     ·rw[if_neg z,if_neg (by omega)]
 ·have:n=32:=by omega
  subst this;rw[if_neg (by omega)]
  exact OK.ret ⟨cur,rfl,uX h hc fun i hi=>by rw[hg i hi,if_pos hi],wN hl hc fun i hi=>by rw[hg i hi,if_pos hi]⟩
theorem Bf{c:List Int}{l:List ag}(h:EI c l)(its:List ak) :
  OK (f60.L2 ((l.length:Int),0,s,fr,fl,sta,g0,g1,g2,g3,was,left,l,c,its,())) fun z=>∃l',z=.inl (s,fr,fl,sta,g0,g1,g2,g3,was,left,c,l',its,())∧PH l'∧l'=l.map cu:=by
 have hl:=h.len;unfold f60.L2;refine OK.loop (fun n:Nat=>((l.length:Int),(n:Int),s,fr,fl,sta,g0,g1,g2,g3,was,left,l,c,its,())) (fun n=>n≤32∧∀i,i<n→cu (l.getD i eN)=l.getD i eN) (fun n=>32-n) (fun rec n hj ih=>?_) 0 rfl ⟨Nat.zero_le _,fun i hi=>absurd hi (Nat.not_lt_zero _)⟩ (by decide)
 obtain⟨hn,hg⟩:=hj;dsimp only at hn ih ⊢;rw[af]
 by_cases q:n<32
 ·have eK:(l.getD n Run.zE).1=kd (l.getD n eN):=rfl
  rw[if_pos (by omega),ao (by omega),cond_true,wr (x:=(n:Int)+1) (by omega),Int.toNat_natCast,eK]
  have same:cu (l.getD n eN)=l.getD n eN→OK (rec ((l.length:Int),((n+1:Nat):Int),s,fr,fl,sta,g0,g1,g2,g3,was,left,l,c,its,())) fun z=>∃l',z=.inl (s,fr,fl,sta,g0,g1,g2,g3,was,left,c,l',its,())∧PH l'∧l'=l.map cu:=fun e=>by
   refine ih (n+1) ⟨by omega,fun i hi=>?_⟩ (by omega) _ rfl
   by_cases z:i<n
   ·exact hg i z
   ·rw[show i=n by omega];exact e
  by_cases k0:kd (l.getD n eN)=0
  ·rw[show (kd (l.getD n eN) !=0)=false from by rw[k0];rfl,cond_false]
   exact same (if_neg fun z=>z.1 k0)
  ·rw[bne_iff_ne.2 k0,cond_true]
   by_cases k1:kd (l.getD n eN)=1
   ·rw[show (kd (l.getD n eN) !=1)=false from by rw[k1];rfl,cond_false]
    exact same (if_neg fun z=>z.2 k1)
   ·rw[bne_iff_ne.2 k1,cond_true,rP hl (bS.2 ⟨by omega,by omega,by rw[Int.toNat_natCast];exact k0⟩)]
    simp only[Option.bind_some,Int.toNat_natCast];refine AS s fr fl sta g0 g1 g2 g3 was left h its (l.set n (cO (l.getD n eN))) (n+1) (by omega) (by rw[List.length_set];exact hl) fun i hi=>?_
    rw[bn _ _ _ _ _ (by omega)]
    by_cases e:n=i
    ·subst e
     rw[if_pos rfl,if_pos (by omega)]
     exact(if_pos ⟨k0,k1⟩).symm
    ·rw[if_neg e]
     by_cases z:i<n+1
     ·rw[if_pos z,hg i (by omega)]
     ·rw[if_neg z]
 ·have:n=32:=by omega
  subst this;rw[if_neg (by omega)]
  exact OK.ret ⟨l,rfl,uX h hl fun i hi=>(hg i hi).symm,wN hl hl fun i hi=>(hg i hi).symm⟩
theorem pB(h1:1≤fl)(h2:fl≤3){c:List Int}{l:List ag}(hP:PH l){its:List ak}(h:aH c its) :
  OK (f60.L3 ((its.length:Int),0,s,fr,fl,sta,g0,g1,g2,g3,was,left,its,c,l,())) fun z=>∃l' its',z=(s,fr,fl,sta,g0,g1,g2,g3,was,left,cells s fl,l',its',())∧EI (cells s fl) l'∧aH (cells s fl) its'∧(l',its')=iz s fl l (its.map iH):=by
 have hil:=h.len;unfold f60.L3;refine OK.loop (fun j:Nat×List ak=>((its.length:Int),(j.1:Int),s,fr,fl,sta,g0,g1,g2,g3,was,left,j.2,c,l,())) (fun j=>j.1≤40∧j.2.length=40∧∀i,i<40→j.2.getD i iN=if i<j.1∧((its.getD i iN).2.1=1∨(its.getD i iN).2.1=4) then iN else its.getD i iN) (fun j=>40-j.1) (fun rec j hj ih=>?_) (0,its) rfl ⟨by dsimp only;omega,hil,fun i hi=>(if_neg fun z=>absurd z.1 (Nat.not_lt_zero _)).symm⟩ (by dsimp only;omega)
 obtain⟨n,cur⟩:=j;obtain⟨hn,hc,hg⟩:=hj;dsimp only at hn hc hg ih ⊢;rw[af]
 by_cases q:n<40
 ·have gn:=hg n q
  rw[if_neg (fun z=>Nat.lt_irrefl n z.1)]at gn
  have eW:(cur.getD n (0,0,0,0)).2.1=(its.getD n iN).2.1:=by rw[←gn]
  rw[if_pos (by omega),ao (by omega),cond_true,wr (x:=(n:Int)+1) (by omega),Int.toNat_natCast,cond_true,eW]
  have out:((its.getD n iN).2.1=1∨(its.getD n iN).2.1=4)→OK (rec ((its.length:Int),((n+1:Nat):Int),s,fr,fl,sta,g0,g1,g2,g3,was,left,cur.set n iN,c,l,())) fun z=>∃l' its',z=(s,fr,fl,sta,g0,g1,g2,g3,was,left,cells s fl,l',its',())∧EI (cells s fl) l'∧aH (cells s fl) its'∧(l',its')=iz s fl l (its.map iH):=fun e=>by
   refine ih (n+1,cur.set n iN) ⟨by dsimp only;omega,by rw[List.length_set];exact hc,fun i hi=>?_⟩ (by dsimp only;omega) _ rfl
   dsimp only;rw[bn _ _ _ _ _ (by omega)]
   by_cases z:n=i
   ·subst z
    rw[if_pos rfl,if_pos ⟨by omega,e⟩]
   ·rw[if_neg z,hg i hi]
    by_cases w:i<n∧((its.getD i iN).2.1=1∨(its.getD i iN).2.1=4)
    ·rw[if_pos w,if_pos ⟨by omega,w.2⟩]
    ·rw[if_neg w,if_neg fun y=>w ⟨by omega,y.2⟩]
  by_cases k1:(its.getD n iN).2.1=1
  ·rw[beq_iff_eq.2 k1,cond_true]
   exact out (.inl k1)
  ·rw[beq_eq_false_iff_ne.2 k1,cond_false]
   by_cases k4:(its.getD n iN).2.1=4
   ·rw[beq_iff_eq.2 k4,cond_true]
    exact out (.inr k4)
   ·rw[beq_eq_false_iff_ne.2 k4,cond_false]
    refine ih (n+1,cur) ⟨by dsimp only;omega,hc,fun i hi=>?_⟩ (by dsimp only;omega) _ rfl
    dsimp only;rw[hg i hi]
    by_cases w:i<n∧((its.getD i iN).2.1=1∨(its.getD i iN).2.1=4)
    ·rw[if_pos w,if_pos ⟨by omega,w.2⟩]
    ·rw[if_neg w,if_neg fun y=>w ⟨Classical.byContradiction fun x=>by
      have:i=n:=by omega
      subst this;rcases y.2 with y | y
      ·exact k1 y
      ·exact k4 y,y.2⟩]
 ·have:n=40:=by omega
  subst this;rw[if_neg (by omega)]
  have hcl:∀i,i<40→cur.getD i iN=if (its.getD i iN).2.1=1∨(its.getD i iN).2.1=4 then iN else its.getD i iN:=fun i hi=>by
   rw[hg i hi]
   by_cases w:(its.getD i iN).2.1=1∨(its.getD i iN).2.1=4
   ·rw[if_pos ⟨hi,w⟩,if_pos w]
   ·rw[if_neg fun y=>w y.2,if_neg w]
  rw[←tQ hil hc hcl];refine OK.aD (wc s fr fl sta g0 g1 g2 g3 was left h1 h2 c hP (E6 h hc hcl)) fun z hz=>?_
  obtain⟨i0,l',its',rfl,hE,hI,hF⟩:=hz;exact OK.ret ⟨l',its',rfl,hE,hI,hF⟩
noncomputable def x4(s fl sta:Int)(l:List ag)(its:List ak):Int×Int×List ag×List ak:=if fl≥3 then (fl,1,l,its) else (fl+1,sta,iz s (fl+1) (l.map cu) (its.map iH))
theorem sF(h1:1≤fl)(h2:fl≤3){l:List ag}{its:List ak}(hE:EI (cells s fl) l)(hI:aH (cells s fl) its) :
  OK (f60 s fr fl sta g0 g1 g2 g3 was left (cells s fl) l its) fun z=>∃fl' sta' l' its',z=(s,fr,fl',sta',g0,g1,g2,g3,was,left,cells s fl',l',its',())∧EI (cells s fl') l'∧aH (cells s fl') its'∧1≤fl'∧fl'≤3∧(sta'=sta∨(sta'=1∧fl'=3))∧(fl',sta',l',its')=x4 s fl sta l its:=by
 unfold f60 x4;rw[af]
 by_cases q:fl≥3
 ·rw[if_pos q,if_pos q]
  exact OK.ret ⟨fl,1,l,its,rfl,hE,hI,h1,h2,.inr ⟨rfl,by omega⟩,rfl⟩
 ·rw[if_neg q,if_neg q,wr (x:=fl+1) (by omega)]
  refine OK.aD (Bf s fr (fl+1) sta g0 g1 g2 g3 was left hE its) fun z hz=>?_
  obtain⟨l',rfl,hP,hl'⟩:=hz;simp only[Sum.elim_inl];rw[←hl'];refine(pB s fr (fl+1) sta g0 g1 g2 g3 was left (by omega) (by omega) hP hI).mono fun z hz=>?_
  obtain⟨l2,i2,rfl,a,b,e⟩:=hz;exact⟨fl+1,sta,l2,i2,rfl,a,b,by omega,by omega,.inl rfl,by rw[←e]⟩
end
end Go.Proofs.YthdgahpomhnidaaGreat.Tp
namespace Go.Proofs.YthdgahpomhnidaaGreat.Tp
open Go Mx Pc Run Field Gen GenL Fl Wd Ft Ln Nav Mn
set_option maxHeartbeats 2000000
abbrev FT:=Bool×RT
def pY(w:RT)(l:List ag)(its:List ak):RT:=(w.1,w.2.1,w.2.2.1,w.2.2.2.1,w.2.2.2.2.1,l,its)
def MW(c:List Int)(m:FT):Prop:=WO c m.2.2.2.2.2.2.1 m.2.2.2.2.2.2.2 m.2.1 m.2.2.1 m.2.2.2.1 m.2.2.2.2.1
noncomputable def ov(s fr fl:Int)(H I:List Int)(P:List Bool)(n:Nat)(m:FT):FT :=
 if n<4 then (if P.getD n false=true then (m.1,pY m.2 (nU s fl m.2.2.2.2.2.2.1 n) m.2.2.2.2.2.2.2) else m)
 else if n<8 then (m.1||cL m.2.2.2.2.2.2.1,ko s fr (cells s fl) ((n-4:Nat):Int) (H.getD (n-4) 0) (I.getD (n-4) 0) m.2)
 else (m.1,pY m.2 (l8 s fr fl (cR (de s fr (cells s fl) (m.2.2.2.2.2.2.1,m.2.2.2.2.2.2.2) 32).1 (de s fr (cells s fl) (m.2.2.2.2.2.2.1,m.2.2.2.2.2.2.2) 32).2 32).1)
   (cR (de s fr (cells s fl) (m.2.2.2.2.2.2.1,m.2.2.2.2.2.2.2) 32).1 (de s fr (cells s fl) (m.2.2.2.2.2.2.1,m.2.2.2.2.2.2.2) 32).2 32).2)
noncomputable def j6(s fr fl:Int)(H I:List Int)(P:List Bool)(m:FT):Nat→FT
 | 0=>m
 | n+1=>ov s fr fl H I P n (j6 s fr fl H I P m n)
theorem Gz(s fr fl:Int)(H I:List Int)(P:List Bool){n:Nat}{m:FT}(h:MW (cells s fl) m):MW (cells s fl) (ov s fr fl H I P n m):=by
 obtain⟨was,g0,g1,g2,g3,left,l,its⟩:=m;have h':WO (cells s fl) l its g0 g1 g2 g3:=h;unfold ov;split
 ·rename_i q
  split
  ·exact⟨DF s fl h'.ei (aJ:=n) ⟨by omega,by omega⟩,h'.it,h'.gQ⟩
  ·exact h
 ·split
  ·obtain⟨w,ew,hw,_⟩:=xM s fr 0 0 g0 g1 g2 g3 was left (fu s fl) h' ((n-4:Nat):Int) (H.getD (n-4) 0) (I.getD (n-4) 0) false
   show WO _ (ko s fr (cells s fl) ((n-4:Nat):Int) (H.getD (n-4) 0) (I.getD (n-4) 0) (g0,g1,g2,g3,left,l,its)).2.2.2.2.2.1 _ _ _ _ _;rw[←ew];exact hw
  ·obtain⟨a,b⟩:=la s fr (fu s fl) (p:=(l,its)) h'.ei h'.it 32 (Nat.le_refl _)
   obtain⟨a',b'⟩:=qX a b 32 (Nat.le_refl _);dsimp only;generalize de s fr (cells s fl) (l,its) 32=p at *
   generalize cR p.1 p.2 32=q at *
   exact⟨AP s fr fl a',b',h'.gQ⟩
theorem lM(s fr fl:Int)(H I:List Int)(P:List Bool){m:FT}(h:MW (cells s fl) m):∀n,MW (cells s fl) (j6 s fr fl H I P m n)
 | 0=>h
 | n+1=>Gz s fr fl H I P (lM s fr fl H I P h n)
noncomputable def iV(s fr fl sta:Int)(m:FT):Option (Int×Int×Int×Int×Int×Int×Int×Int×List Int×List ag×List ak×Unit) :=
 bif cL m.2.2.2.2.2.2.1 then
  (bif m.2.2.2.2.2.1 then Option.bind (f60 s fr fl sta m.2.1 m.2.2.1 m.2.2.2.1 m.2.2.2.2.1 m.1 true (cells s fl) m.2.2.2.2.2.2.1 m.2.2.2.2.2.2.2) fun y=>some (y.1,y.2.1,y.2.2.1,y.2.2.2.1,y.2.2.2.2.1,y.2.2.2.2.2.1,y.2.2.2.2.2.2.1,y.2.2.2.2.2.2.2.1,y.2.2.2.2.2.2.2.2.2.2.1,y.2.2.2.2.2.2.2.2.2.2.2.1,y.2.2.2.2.2.2.2.2.2.2.2.2.1,())
  else some (s,fr,fl,sta,m.2.1,m.2.2.1,m.2.2.2.1,m.2.2.2.2.1,cells s fl,m.2.2.2.2.2.2.1,m.2.2.2.2.2.2.2,()))
 else some (s,fr,fl,bif m.1 then 2 else sta,m.2.1,m.2.2.1,m.2.2.2.1,m.2.2.2.2.1,cells s fl,m.2.2.2.2.2.2.1,m.2.2.2.2.2.2.2,())
structure WW (s fr fl sta g0 g1 g2 g3:Int) (c:List Int) (l:List ag) (its:List ak):Prop where
 hc:c=cells s fl
 wo:WO c l its g0 g1 g2 g3
 HZ:1≤fl
 Ii:fl≤3
 HQ:0≤sta∧sta≤2
 Ik:sta=1→fl=3
def lF(s fr:Int)(z:Int×Int×Int×Int×Int×Int×Int×Int×List Int×List ag×List ak×Unit):Prop :=
 z.1=s∧z.2.1=fr∧WW s fr z.2.2.1 z.2.2.2.1 z.2.2.2.2.1 z.2.2.2.2.2.1 z.2.2.2.2.2.2.1 z.2.2.2.2.2.2.2.1 z.2.2.2.2.2.2.2.2.1 z.2.2.2.2.2.2.2.2.2.1 z.2.2.2.2.2.2.2.2.2.2.1
theorem BW(s fr fl sta:Int)(h1:1≤fl)(h3:fl≤3)(hs:sta=0){m:FT}(h:MW (cells s fl) m):OK (iV s fr fl sta m) (lF s fr):=by
 obtain⟨was,g0,g1,g2,g3,left,l,its⟩:=m;have h':WO (cells s fl) l its g0 g1 g2 g3:=h;unfold iV;subst hs;refine OK.bif (fun _=>OK.bif (fun _=>?_) fun _=>OK.ret ⟨rfl,rfl,rfl,h',h1,h3,(by decide:(0:Int)≤0∧(0:Int)≤2),fun z=>absurd (show (0:Int)=1 from z) (by decide)⟩) fun _=>OK.ret ⟨rfl,rfl,rfl,h',h1,h3,?_,?_⟩
 ·refine OK.aD (sF s fr fl 0 g0 g1 g2 g3 was true h1 h3 h'.ei h'.it) fun z hz=>?_
  obtain⟨fl',sta',l',its',rfl,a,b,c1,c2,c3,_⟩:=hz;refine OK.ret ⟨rfl,rfl,rfl,⟨a,b,h'.gQ⟩,c1,c2,?_,?_⟩
  ·show 0≤sta'∧sta'≤2
   omega
  ·show sta'=1→fl'=3
   omega
 ·cases was
  ·exact(by decide:(0:Int)≤0∧(0:Int)≤2)
  ·exact(by decide:(0:Int)≤2∧(2:Int)≤2)
 ·cases was
  ·exact fun z=>absurd (show (0:Int)=1 from z) (by decide)
  ·exact fun z=>absurd (show (2:Int)=1 from z) (by decide)
section
variable (s fr fl sta g0 g1 g2 g3:Int) (h0 i0:Int) (p0:Bool) (h1 i1:Int) (p1:Bool) (h2 i2:Int) (p2:Bool) (h3 i3:Int) (p3:Bool)
theorem Dw{m0:FT}(hM:MW (cells s fl) m0){z}(hz:iV s fr fl sta (j6 s fr fl [h0,h1,h2,h3] [i0,i1,i2,i3] [p0,p1,p2,p3] m0 9)=some z){m1:FT}(e1:m1=j6 s fr fl [h0,h1,h2,h3] [i0,i1,i2,i3] [p0,p1,p2,p3] m0 1) :
  f20.L1 (1,h0,i0,p0,h1,i1,p1,h2,i2,p2,h3,i3,p3,0,0,0,0,0,0,0,0,s,fr,fl,sta,m1.2.1,m1.2.2.1,m1.2.2.2.1,m1.2.2.2.2.1,m1.1,m1.2.2.2.2.2.1,cells s fl,m1.2.2.2.2.2.2.1,m1.2.2.2.2.2.2.2,())=some z:=by
 refine OK.eq ?_;have hR:=lM s fr fl [h0,h1,h2,h3] [i0,i1,i2,i3] [p0,p1,p2,p3] hM;have hS:∀n,j6 s fr fl [h0,h1,h2,h3] [i0,i1,i2,i3] [p0,p1,p2,p3] m0 (n+1)=ov s fr fl [h0,h1,h2,h3] [i0,i1,i2,i3] [p0,p1,p2,p3] n (j6 s fr fl [h0,h1,h2,h3] [i0,i1,i2,i3] [p0,p1,p2,p3] m0 n):=fun n=>rfl
 generalize j6 s fr fl [h0,h1,h2,h3] [i0,i1,i2,i3] [p0,p1,p2,p3] m0=R at *
 subst e1;unfold f20.L1;refine OK.loop (fun n:Nat=>((n:Int),h0,i0,p0,h1,i1,p1,h2,i2,p2,h3,i3,p3,0,0,0,0,0,0,0,0,s,fr,fl,sta,(R n).2.1,(R n).2.2.1,(R n).2.2.2.1,(R n).2.2.2.2.1,(R n).1,(R n).2.2.2.2.2.1,cells s fl,(R n).2.2.2.2.2.2.1,(R n).2.2.2.2.2.2.2,())) (fun n=>1≤n∧n≤9) (fun n=>9-n) (fun rec n hn ih=>?_) 1 rfl ⟨by decide,by decide⟩ (by decide)
 have nx:=fun hq=>ih (n+1) ⟨by omega,hq⟩ (by omega) _ rfl
 have hw:=hR n;have ew:IntKind.wrap .i64 ((n:Int)+1)=((n+1:Nat):Int):=by rw[wr (by omega)];rfl
 rw[hS n]at nx;dsimp only at nx ⊢;have hz9:n=9→iV s fr fl sta (R n)=some z:=fun e=>by rw[e];exact hz
 generalize R n=m at hw nx hz9 ⊢;obtain⟨was,g0,g1,g2,g3,left,l,its⟩:=m;have hw':WO (cells s fl) l its g0 g1 g2 g3:=hw;dsimp only at nx ⊢;unfold ov at nx;rw[←ew]at nx;clear ew;rw[af]
 by_cases q4:n<4
 ·rw[if_pos q4]at nx
  rw[if_pos (by omega),ao (by omega),cond_true,Int.toNat_natCast]
  have nx:=nx (by omega)
  cases hp:List.getD [p0,p1,p2,p3] n false
  ·rw[hp,if_neg (by decide)]at nx
   rw[cond_false];exact nx
  ·rw[hp,if_pos rfl]at nx
   rw[cond_true,xa s fr fl sta g0 g1 g2 g3 was left its hw'.ei (n:Int)];exact nx
 ·rw[if_neg q4]at nx
  rw[if_neg (by omega),af]
  by_cases q8:n<8
  ·rw[if_pos q8]at nx
   have nx:=nx (by omega)
   obtain⟨k,rfl⟩:∃k,n=k+4:=⟨n-4,by omega⟩
   rw[Nat.add_sub_cancel]at nx;obtain⟨w,ew,hwo,e⟩:=xM s fr fl sta g0 g1 g2 g3 (was||cL l) left (fu s fl) hw' (k:Int) (List.getD [h0,h1,h2,h3] k 0) (List.getD [i0,i1,i2,i3] k 0) (List.getD [p0,p1,p2,p3] k false)
   dsimp only at nx;rw[←ew]at nx;rw[if_pos (by omega),wr (x:=((k+4:Nat):Int)-4) (by omega),show ((k+4:Nat):Int)-4=(k:Int) by omega,ao (by omega),Int.toNat_natCast]
   cases was
   ·rw[cond_false,nk s fr fl sta g0 g1 g2 g3 false left its _ hw'.ei.len]
    rw[Bool.false_or]at e nx;simp only[Option.bind_some,cond_true];rw[e];exact nx
   ·rw[cond_true]
    rw[Bool.true_or]at e nx;simp only[cond_true];rw[e];exact nx
  ·rw[if_neg q8]at nx
   rw[if_neg (by omega)]
   by_cases q9:n=8
   ·subst q9
    have nx:=nx (by omega)
    obtain⟨a,b⟩:=la s fr (fu s fl) (p:=(l,its)) hw'.ei hw'.it 32 (Nat.le_refl _);obtain⟨a',b'⟩:=qX a b 32 (Nat.le_refl _);rw[show ((((8:Nat):Int)==8)=true) from rfl,cond_true,vZ s fr fl sta g0 g1 g2 g3 was left (fu s fl) hw'.ei hw'.it]
    simp only[Option.bind_some];rw[F2 s fr fl sta (cells s fl) g0 g1 g2 g3 (by rw[bR];decide) a.r9 (iJ b)]
    simp only[Option.bind_some];rw[Fj s fr fl sta g0 g1 g2 g3 was left _ a'];dsimp only[pY]at nx ⊢;generalize de s fr (cells s fl) (l,its) 32=p at *
    generalize cR p.1 p.2 32=q at *
    exact nx
   ·have:n=9:=by omega
    subst this;have hz9:=hz9 rfl;rw[show ((((9:Nat):Int)==8)=false) from rfl,cond_false,nk s fr fl sta g0 g1 g2 g3 was left its _ hw'.ei.len]
    simp only[Option.bind_some];unfold iV at hz9;dsimp only at hz9;cases ha:cL l
    ·rw[ha,cond_false]at hz9
     rw[Bool.not_false,cond_true];cases was
     ·cases hz9;exact OK.ret rfl
     ·cases hz9;exact OK.ret rfl
    ·rw[ha,cond_true]at hz9
     rw[Bool.not_true,cond_false];cases left
     ·rw[cond_false]at hz9
      rw[cond_false];cases hz9;exact OK.ret rfl
     ·rw[cond_true]at hz9
      rw[cond_true];cases hf:f60 s fr fl sta g0 g1 g2 g3 was true (cells s fl) l its with
      | none=>rw[hf]at hz9;exact absurd hz9 (by simp)
      | some y =>
       rw[hf]at hz9;cases hz9;exact OK.ret rfl
noncomputable def yy(l:List ag)(its:List ak):Option (Int×Int×Int×Int×Int×Int×Int×Int×List Int×List ag×List ak×Unit) :=
 if sta=0 then iV s (fr+1) fl sta (j6 s (fr+1) fl [h0,h1,h2,h3] [i0,i1,i2,i3] [p0,p1,p2,p3] (cL l,g0,g1,g2,g3,false,l,its) 9)
 else some (s,fr+1,fl,sta,g0,g1,g2,g3,cells s fl,l,its,())
theorem xv(hf:0≤fr∧fr≤100000){c:List Int}{l:List ag}{its:List ak}(h:WW s fr fl sta g0 g1 g2 g3 c l its):∃z,f20 s fr fl sta c l its g0 g1 g2 g3 h0 i0 p0 h1 i1 p1 h2 i2 p2 h3 i3 p3=some z∧yy s fr fl sta g0 g1 g2 g3 h0 i0 p0 h1 i1 p1 h2 i2 p2 h3 i3 p3 l its=some z∧lF s (fr+1) z:=by
 obtain⟨rfl,hw,hf1,hf3,hs,hwon⟩:=h;have hcl:=bR s fl;have hl:=hw.ei.len;have hil:=hw.it.len;have tw:f53 s fr fl sta (cells s fl) l its g0 g1 g2 g3=some (s,fr,fl,sta,g0,g1,g2,g3,cells s fl,l,its,()):=by
  unfold f53;rw[Gd.jP (cells s fl) (by omega),Gd.gX l (by omega),Gd.g9 its (by omega)]
  rfl
 unfold f20 yy;rw[tw];simp only[Option.bind_some];rw[wr (x:=fr+1) (by omega)]
 by_cases s0:sta=0
 ·subst s0
  rw[if_pos rfl];have hM:MW (cells s fl) (cL l,g0,g1,g2,g3,false,l,its):=hw;obtain⟨z,ez,hz⟩:=BW s (fr+1) fl 0 hf1 hf3 rfl (lM s (fr+1) fl [h0,h1,h2,h3] [i0,i1,i2,i3] [p0,p1,p2,p3] hM 9);have lp:=Dw s (fr+1) fl 0 h0 i0 p0 h1 i1 p1 h2 i2 p2 h3 i3 p3 hM ez rfl;refine⟨z,?_,ez,hz⟩;rw[show (((0:Int)==1)=false) from rfl,cond_false,show (((0:Int)==2)=false) from rfl,cond_false,nk s (fr+1) fl 0 g0 g1 g2 g3 false false its _ hl]
  simp only[Option.bind_some];cases p0
  ·exact lp
  ·rw[cond_true]
   have ce:=xa s (fr+1) fl 0 g0 g1 g2 g3 (cL l) false its hw.ei 0;rw[ce];exact lp
 ·rw[if_neg s0]
  refine⟨_,?_,rfl,rfl,rfl,rfl,hw,hf1,hf3,hs,hwon⟩
  by_cases s1:sta=1
  ·rw[beq_iff_eq.2 s1,cond_true]
  ·have s2:sta=2:=by omega
   rw[beq_eq_false_iff_ne.2 s1,cond_false,beq_iff_eq.2 s2,cond_true]
end
end Go.Proofs.YthdgahpomhnidaaGreat.Tp
namespace Go.Proofs.YthdgahpomhnidaaGreat.Gd
open Go Mx Pc Run Field Gen GenL Fl Wd
set_option maxHeartbeats 1000000
theorem wM(a0 a1 a2 a3 a7 a8 a9 a10:Int)(c:List Int)(l:List ag)(its:List ak)(h1:l.length≤100000)(h2:its.length≤100000) :
  f25 a0 a1 a2 a3 c l its a7 a8 a9 a10 a0 a1 a2 a3 c l its a7 a8 a9 a10=some (true,()):=by
 have items:f25.L1 (0,a0,a1,a2,a3,c,l,its,a7,a8,a9,a10,a0,a1,a2,a3,c,l,its,a7,a8,a9,a10,())=some (true,()):=by
  refine OK.eq ?_;unfold f25.L1;refine OK.loop (fun i:Nat=>((i:Int),a0,a1,a2,a3,c,l,its,a7,a8,a9,a10,a0,a1,a2,a3,c,l,its,a7,a8,a9,a10,())) (fun i=>i≤its.length) (fun i=>its.length-i) (fun rec i hi ih=>?_) 0 rfl (Nat.zero_le _) (by omega)
  dsimp only;rw[af]
  by_cases q:(i:Int)<its.length
  ·rw[if_pos q,ao (by omega),cond_true,cond_true,wr (by omega)]
   simp only[beq_self_eq_true,Bool.and_self,Bool.not_true,cond_false];exact ih (i+1) (by omega) (by omega) _ rfl
  ·rw[if_neg q]
   exact OK.ret rfl
 refine OK.eq ?_;unfold f25 f25.L2;simp only[beq_self_eq_true,Bool.not_true,cond_false,bne_self_eq_false,Bool.and_self];refine OK.loop (fun i:Nat=>((i:Int),a0,a1,a2,a3,c,l,its,a7,a8,a9,a10,a0,a1,a2,a3,c,l,its,a7,a8,a9,a10,())) (fun i=>i≤l.length) (fun i=>l.length-i) (fun rec i hi ih=>?_) 0 rfl (Nat.zero_le _) (by omega)
 dsimp only;rw[af]
 by_cases q:(i:Int)<l.length
 ·rw[if_pos q,ao (by omega),cond_true,cond_true,wr (by omega)]
  simp only[beq_self_eq_true,Bool.and_self,Bool.not_true,cond_false];exact ih (i+1) (by omega) (by omega) _ rfl
 ·rw[if_neg q,items]
  exact OK.ret rfl
theorem vd(v:Int):f15 v=some (aQ v,()):=by
 unfold f15 aQ
 by_cases h:v≥1
 ·rw[decide_eq_true h,cond_true]
  have:decide (v≤5)=decide (1≤v∧v≤5):=decide_eq_decide.2 ⟨fun x=>⟨h,x⟩,fun x=>x.2⟩
  rw[this]
 ·rw[decide_eq_false h,cond_false,decide_eq_false (fun x=>h x.1)]
structure CM (c:List Int):Prop where
 len:c.length=384
 b:CB c
 v:∀i,c.getD i 0≤5
section
variable (a0 a1 a2 a3:Int) (c:List Int) (a7 a8 a9 a10:Int)
theorem Gv(hc:CM c)(l:List ag)(its:List ak)(x:ak)(hk:1≤x.1∧x.1≤4)(h:cQ c x) :
  f99 a0 a1 a2 a3 c l its a7 a8 a9 a10 x.1 x.2.1 x.2.2.1 x.2.2.2=some (true,()):=by
 unfold f99;rw[decide_eq_true (show x.1≥1 from hk.1),cond_true]
 simp only[Option.bind_some,Sum.elim_inl];rcases h with ⟨h1,h2,h3,h4,h5,h6⟩ | ⟨h1,h2,h3,h4,h5,h6⟩ | ⟨h1,h2,h3,h4⟩ | ⟨h1,h2,h3,h4,h5⟩
 ·have hin:bB x.2.2.1 x.2.2.2:=⟨h2,h3,h4,h5⟩
  have hw:aQ (dp c x.2.2.1 x.2.2.2)=true:=by
   unfold dp;rw[if_pos hin];have b:=hc.b (cd x.2.2.1 x.2.2.2).toNat;have b5:=hc.v (cd x.2.2.1 x.2.2.2).toNat;have h6':c.getD (cd x.2.2.1 x.2.2.2).toNat 0≠0:=h6;show aQ (c.getD (cd x.2.2.1 x.2.2.2).toNat 0)=true;unfold aQ;rw[decide_eq_true_eq];omega
  rw[beq_iff_eq.2 h1,cond_true,uI c hc.b hc.len];simp only[Option.bind_some];rw[vd,hw]
  by_cases k3:x.1≤3
  ·rw[decide_eq_true k3]
   rfl
  ·rw[decide_eq_false k3,cond_false,beq_iff_eq.2 (show x.1=4 by omega)]
   rfl
 ·have k3:x.1≤3:=by omega
  rw[beq_eq_false_iff_ne.2 (show x.2.1≠1 by omega),cond_false,beq_eq_false_iff_ne.2 (show x.2.1≠4 by omega),cond_false,beq_iff_eq.2 h1,cond_true,decide_eq_true k3,cond_true,decide_eq_true (show x.2.2.2≥0 from h4),cond_true,decide_eq_true h5]
  simp only[Option.bind_some,Sum.elim_inl,cond_true];rw[decide_eq_true (show x.2.2.1≥0 from h2),cond_true,decide_eq_true h3,cond_true,h1]
  rfl
 ·have k3:x.1≤3:=by omega
  have e:IntKind.wrap .i64 (2+x.2.2.2)=2+x.2.2.2:=wr (by omega)
  rw[beq_eq_false_iff_ne.2 (show x.2.1≠1 by omega),cond_false,beq_eq_false_iff_ne.2 (show x.2.1≠4 by omega),cond_false,beq_eq_false_iff_ne.2 (show x.2.1≠2 by omega),cond_false,beq_iff_eq.2 h1,cond_true,decide_eq_true k3]
  simp only[Option.bind_some,Sum.elim_inl,cond_true];rw[decide_eq_true (show x.2.2.1≥0 from h2),cond_true,decide_eq_true h3,cond_true,beq_eq_false_iff_ne.2 (show x.2.1≠2 by omega),cond_false,e,beq_iff_eq.2 (show x.1=2+x.2.2.2 by omega),cond_true,decide_eq_true (show x.2.2.2≥0 by omega)]
 ·have k3:x.1≤3:=by omega
  rw[beq_eq_false_iff_ne.2 (show x.2.1≠1 by omega),cond_false,beq_iff_eq.2 h1,cond_true,decide_eq_true k3,cond_true,decide_eq_true (show x.2.2.1≥0 from h2),cond_true,decide_eq_true h3,cond_true,h4]
  rfl
theorem Cv(hc:CM c)(l:List ag){its:List ak}(h:aH c its):f51 a0 a1 a2 a3 c l its a7 a8 a9 a10=some (true,()):=by
 have hl:=h.len;unfold f51 tN;rw[if_pos (show its.length=40 from hl)]
 refine Option.map_eq_some_iff.2 ⟨true,?_,rfl⟩;have main:∀(l2:List ak) (i:Nat) (ks:List bM),its.drop i=l2→(∀k∈ks,∃j,j<i∧its.getD j iN≠iN∧k=(0,(its.getD j iN).2)) →
   chkGo (fun y=>f98 y.1 y.2.1 y.2.2.1 y.2.2.2) (fun y=>f99 a0 a1 a2 a3 c l its a7 a8 a9 a10 y.1 y.2.1 y.2.2.1 y.2.2.2) l2 ks=some true:=by
  intro l2
  induction l2 with
  | nil=>intro i ks _ _;rfl
  | cons y l2 ih =>
   intro i ks hd hks;have hi:i<40:=by
    have:=congrArg List.length hd;simp only[List.length_drop,List.length_cons]at this;omega
   have hy:its.getD i iN=y:=by
    have:=congrArg (fun l=>l[0]?) hd
    simp only[List.getElem?_drop,Nat.add_zero,List.getElem?_cons_zero]at this;rw[List.getD_eq_getElem?_getD,this];rfl
   have hd':its.drop (i+1)=l2:=by rw[←List.drop_drop,hd];rfl
   rw[chkGo]
   by_cases z:y=(0,0,0,0)
   ·rw[if_pos z]
    refine ih (i+1) ks hd' fun k hk=>?_
    obtain⟨j,q1,q2⟩:=hks k hk;exact⟨j,by omega,q2⟩
   ·rw[if_neg z]
    rcases h.kind i hi with q | ⟨k1,k4,hP⟩
    ·exact absurd (hy.symm.trans q) z
    ·rw[hy]at k1 k4 hP
     have ep:f98 y.1 y.2.1 y.2.2.1 y.2.2.2=some (0,y.2.1,y.2.2.1,y.2.2.2,()):=rfl;rw[ep,Gv a0 a1 a2 a3 c a7 a8 a9 a10 hc l its y ⟨k1,k4⟩ hP];have er:rk (0,y.2.1,y.2.2.1,y.2.2.2,())=(0,y.2):=rfl;have ni:¬rk (0,y.2.1,y.2.2.1,y.2.2.2,())∈ks:=fun hm=>by
      obtain⟨j,q1,q2,q3⟩:=hks _ hm;rw[er]at q3;have e2:(its.getD j iN).2=(its.getD i iN).2:=by
       rw[hy];exact(congrArg Prod.snd q3).symm
      have:=h.one j i (by omega) hi q2 e2
      omega
     simp only[ni,if_false,if_true];refine ih (i+1) _ hd' fun k hk=>?_
     rcases List.mem_append.1 hk with hk | hk
     ·obtain⟨j,q1,q2⟩:=hks k hk
      exact⟨j,by omega,q2⟩
     ·rw[List.mem_singleton.1 hk,er]
      exact⟨i,by omega,by rw[hy];exact z,by rw[hy]⟩
 exact main its 0 [] rfl (fun k hk=>by cases hk)
end
theorem B1(s fl:Int):CM (cells s fl):=⟨bR s fl,bX s fl,fun i=>(dq s fl i).2⟩
end Go.Proofs.YthdgahpomhnidaaGreat.Gd
namespace Go.Proofs.YthdgahpomhnidaaGreat.Tp
open Go Mx Pc Run Field Gen GenL Fl Wd Ft Ln Nav Mn
set_option maxHeartbeats 2000000
theorem GQ(a b c:Int):f49 a b c=some (decide (b≤a∧a≤c),()):=by
 unfold f49
 by_cases h:a≥b
 ·rw[decide_eq_true h,cond_true]
  have:decide (a≤c)=decide (b≤a∧a≤c):=decide_eq_decide.2 ⟨fun x=>⟨h,x⟩,fun x=>x.2⟩
  rw[this]
 ·rw[decide_eq_false h,cond_false,decide_eq_false (fun x=>h x.1)]
theorem jc{a b c:Int}(h:b≤a∧a≤c):f49 a b c=some (true,()):=by rw[GQ,decide_eq_true h]
theorem sr{α:Type}[BEq α][LawfulBEq α](a:α):∀(L:List α) (i:Nat),L[i]?=some a→(∀j,L[j]?=some a→j=i)→L.count a=1
 | [],i,h,_=>by simp at h
 | x::L,0,h,hu=>by
  have hx:x=a:=by simpa using h
  subst hx;rw[List.count_cons_self];have:L.count x=0:=by
   rw[List.count_eq_zero];intro hm;obtain⟨k,hk⟩:=List.getElem?_of_mem hm;have:=hu (k+1) (by simpa using hk)
   omega
  omega
 | x::L,i+1,h,hu=>by
  have hx:x≠a:=fun z=>by
   have:=hu 0 (by simp[z])
   omega
  rw[List.count_cons_of_ne hx];refine sr a L i (by simpa using h) fun j hj=>?_
  have:=hu (j+1) (by simpa using hj)
  omega
theorem wW{c:List Int}(hl:c.length=384)(hv:∀i,0≤c.getD i 0∧c.getD i 0≤5){x:Int}(hx:0≤x∧x≤5){k:Nat}(hk:k<384)(h:∀n,c.getD n 0=x↔n=k):f94 c [x]=some (1,()):=by
 show some (fK c x,())=_;have e:(Go.Lib.bytesOf c).count x.toNat.toUInt8=1:=by
  have fF:∀j,j<384→(Go.Lib.bytesOf c)[j]?=some (c.getD j 0).toNat.toUInt8:=fun j hj=>by
   unfold Go.Lib.bytesOf;rw[List.getElem?_map,List.getElem?_eq_getElem (by omega),List.getD_eq_getElem?_getD,List.getElem?_eq_getElem (by omega)]
   rfl
  refine sr _ _ k (by rw[fF k hk,(h k).2 rfl]) fun j hj=>?_
  have hj3:j<384:=by
   have:=(List.getElem?_eq_some_iff.1 hj).1;unfold Go.Lib.bytesOf at this;rw[List.length_map]at this;omega
  rw[fF j hj3]at hj;have e2:(c.getD j 0).toNat.toUInt8=x.toNat.toUInt8:=Option.some.inj hj;have e3:((c.getD j 0).toNat.toUInt8).toNat=(x.toNat.toUInt8).toNat:=by rw[e2]
  have v:=hv j;have t1:((c.getD j 0).toNat.toUInt8).toNat=(c.getD j 0).toNat%256:=rfl;have t2:(x.toNat.toUInt8).toNat=x.toNat%256:=rfl;exact(h j).1 (by omega)
 unfold fK;rw[e];rfl
theorem Gx{c:List Int}(hl:c.length=384)(hv:∀i,0≤c.getD i 0∧c.getD i 0≤5):OK (f93 c) fun z=>z.1≤5:=by
 unfold f93 f93.L1;rw[af,if_neg (by omega),ao (by omega),cond_true]
 refine OK.loop (fun j:Nat×Int=>(c,j.2,(j.1:Int),())) (fun j=>j.1≤384∧j.2≤5) (fun j=>384-j.1) (fun rec j hj ih=>?_) (1,c.getD 0 0) rfl ⟨by dsimp only;omega,(hv 0).2⟩ (by dsimp only;omega)
 obtain⟨n,m⟩:=j;dsimp only at hj ih ⊢;rw[af]
 by_cases q:n<384
 ·rw[if_pos (by omega),ao (by omega),cond_true,wr (x:=(n:Int)+1) (by omega),Int.toNat_natCast]
  refine ih (n+1,cz m (c.getD n 0)) ⟨by dsimp only;omega,?_⟩ (by dsimp only;omega) _ rfl
  have:=(hv n).2;dsimp only;unfold cz;split<;>omega
 ·rw[if_neg (by omega)]
  exact OK.ret hj.2
section
variable (s fr fl sta g0 g1 g2 g3:Int)
theorem Ei(hf:0≤fr∧fr≤100000){c:List Int}{l:List ag}{its:List ak}(h:WW s fr fl sta g0 g1 g2 g3 c l its):f48 s fr fl sta c l its g0 g1 g2 g3=some (0,()):=by
 have hg:=h.wo.gQ;unfold Gd.jg at hg;unfold f48;rw[jc ⟨by omega,by omega⟩]
 simp only[Option.bind_some,cond_true];rw[jc ⟨h.HZ,h.Ii⟩];simp only[Option.bind_some,cond_true];rw[jc h.HQ];simp only[Option.bind_some,Sum.elim_inl];refine OK.eq ?_;unfold f48.L1;refine OK.loop (fun n:Nat=>(true,g0,g1,g2,g3,(n:Int),s,fr,fl,sta,c,l,its,g0,g1,g2,g3,())) (fun n=>n≤4) (fun n=>4-n) (fun rec n hn ih=>?_) 0 rfl (Nat.zero_le _) (by decide)
 dsimp only at hn ih ⊢;rw[af]
 by_cases q:n<4
 ·rw[if_pos (by omega),ao (by omega),cond_true,cond_true,wr (x:=(n:Int)+1) (by omega),Int.toNat_natCast]
  have b:0≤[g0,g1,g2,g3].getD n 0∧[g0,g1,g2,g3].getD n 0≤999:=by
   have:n=0∨n=1∨n=2∨n=3:=by omega
   rcases this with rfl | rfl | rfl | rfl
   ·exact hg.1
   ·exact hg.2.1
   ·exact hg.2.2.1
   ·exact hg.2.2.2
  rw[jc b];exact ih (n+1) (by omega) (by omega) _ rfl
 ·rw[if_neg (by omega),Bool.not_true,cond_false]
  have hcl:c.length=384:=by rw[h.hc];exact bR s fl
  have hv:∀i,0≤c.getD i 0∧c.getD i 0≤5:=by rw[h.hc];exact dq s fl
  have hl:=h.wo.ei.len;have hil:=h.wo.it.len;have u:=cG s fl;have d:=lO s fl;unfold GC at u d;rw[show ((c.length:Int) !=384)=false from by rw[hcl];rfl,cond_false,show ((l.length:Int) !=32)=false from by rw[hl];rfl,cond_false,show ((its.length:Int) !=40)=false from by rw[hil];rfl]
  simp only[Option.bind_some,Sum.elim_inl,cond_false];refine OK.aD (Gx hcl hv) fun z hz=>?_
  rw[af,if_neg (by omega),wW hcl hv (x:=3) (by decide) (k:=(aG s fl).toNat) (by omega) (by rw[h.hc];exact uB s fl)]
  simp only[Option.bind_some];rw[show ((1:Int) !=1)=false from rfl,cond_false,wW hcl hv (x:=4) (by decide) (k:=(az s fl).toNat) (by omega) (by rw[h.hc];exact x7 s fl)]
  exact OK.ret rfl
theorem DP{c:List Int}(hc:CC c){l:List ag}(h:EI c l)(its:List ak){r:Nat}(hr:r<32):f50 s fr fl sta c l its g0 g1 g2 g3 (r:Int)=some (true,()):=by
 have hl:=h.len;have hg:=h.gen r hr;have hF:=h.free r hr;have hT:=h.taken r hr;have hA:=fun k=>Fu h.zJ (r:=r) hr k
 have hH:=fun k=>CG h.zJ (h:=r) hr k
 unfold f50;rw[ao (by omega),cond_true,Int.toNat_natCast]
 have e0:l.getD r Run.zE=l.getD r eN:=rfl;rw[e0];clear e0;generalize l.getD r eN=e at *
 obtain⟨k,g,t,x,y,hp',mx',fF,df',po',sn'⟩:=e;dsimp only[kd,gn,st,ex,ey]at hg hF hT hA hH ⊢;rw[jc ⟨hg.1,by omega⟩]
 simp only[Option.bind_some,Bool.not_true,cond_false]
 by_cases k0:k=0
 ·have z:=hF k0
  unfold cO at z;simp only[Prod.mk.injEq]at z;obtain⟨rfl,_,rfl,rfl,rfl,rfl,rfl,rfl,rfl,rfl,rfl⟩:=z;simp only[beq_self_eq_true,cond_true,Bool.and_self,Bool.and_true]
 ·obtain⟨t1,t2,t3,t4,t5,t6⟩:=hT k0
  dsimp only[kd,gn,st,ex,ey,hp,bE,c8,df,po,sn]at t1 t2 t3 t4 t5 t6;obtain⟨rfl,rfl,rfl⟩:=t4;have wk:aQ (Gd.dp c x y)=true:=by
   unfold Gd.dp;rw[if_pos ⟨t2.1,t2.2.1,t2.2.2.1,t2.2.2.2.1⟩];have v:=hc.val (cd x y).toNat;have t2':c.getD (cd x y).toNat 0≠0:=t2.2.2.2.2;show aQ (c.getD (cd x y).toNat 0)=true;unfold aQ;rw[decide_eq_true_eq];omega
  rw[beq_eq_false_iff_ne.2 k0,cond_false,pG k t1];simp only[Option.bind_some];rw[Gd.uI c hc.cb hc.len];simp only[Option.bind_some];rw[Gd.vd,wk];simp only[Option.bind_some,cond_true];rw[jc t3];simp only[Option.bind_some,cond_true,beq_self_eq_true,Sum.elim_inl];rw[jc ⟨t5.1,t5.2.1⟩];simp only[Option.bind_some,cond_true];rw[jc ⟨t5.2.2.1,t5.2.2.2⟩];simp only[Option.bind_some,cond_true,Sum.elim_inl];have eA:f96 l x y=some ((r:Int),()):=by rw[j8 l hl,hA k0]
  by_cases k1:k=1
  ·have eH:f97 l t=some ((r:Int),()):=by rw[gY l hl,hH k1]
   rw[beq_iff_eq.2 k1,cond_true,jc (a:=t) (b:=0) (c:=3) (by have:=t6.1 k1;omega)]
   simp only[Option.bind_some,cond_true];rw[eA];simp only[Option.bind_some,cond_true,beq_self_eq_true];rw[eH];simp only[Option.bind_some,beq_self_eq_true]
  ·rw[beq_eq_false_iff_ne.2 k1,cond_false,beq_iff_eq.2 (t6.2 k1),cond_true,eA]
   simp only[Option.bind_some,beq_self_eq_true]
theorem BZ(hf:0≤fr∧fr≤100000){c:List Int}{l:List ag}{its:List ak}(h:WW s fr fl sta g0 g1 g2 g3 c l its):f18 s fr fl sta c l its g0 g1 g2 g3=some (0,()):=by
 have hl:=h.wo.ei.len;unfold f18;rw[Ei s fr fl sta g0 g1 g2 g3 hf h];simp only[Option.bind_some];rw[show ((0:Int) !=0)=false from rfl,cond_false]
 refine OK.eq ?_;unfold f18.L1;refine OK.loop (fun n:Nat=>(l,(l.length:Int),(n:Int),s,fr,fl,sta,c,l,its,g0,g1,g2,g3,())) (fun n=>n≤32) (fun n=>32-n) (fun rec n hn ih=>?_) 0 rfl (Nat.zero_le _) (by decide)
 dsimp only at hn ih ⊢;rw[af]
 by_cases q:n<32
 ·have hk:0≤(l.getD n Run.zE).1∧(l.getD n Run.zE).1≤4:=by
   show 0≤kd (l.getD n eN)∧kd (l.getD n eN)≤4
   by_cases k:kd (l.getD n eN)=0
   ·omega
   ·have:=(h.wo.ei.taken n q k).kind
    omega
  rw[if_pos (by omega),ao (by omega),cond_true,wr (x:=(n:Int)+1) (by omega),Int.toNat_natCast,jc hk]
  simp only[Option.bind_some,Bool.not_true,cond_false];have hcc:CC c:=by rw[h.hc];exact fu s fl
  rw[DP s fr fl sta g0 g1 g2 g3 hcc h.wo.ei its q];exact ih (n+1) (by omega) (by omega) _ rfl
 ·have hco:Gd.CM c:=by rw[h.hc];exact Gd.B1 s fl
  rw[if_neg (by omega),Gd.Cv s fr fl sta c g0 g1 g2 g3 hco l h.wo.it]
  exact OK.ret rfl
end
end Go.Proofs.YthdgahpomhnidaaGreat.Tp
namespace Go.Proofs.YthdgahpomhnidaaGreat.Tp
open Go Mx Pc Run Field Gen GenL Fl Wd Ft Ln Nav Mn
set_option maxHeartbeats 2000000
theorem tp(a n:Int)(h:0<n)(hn:n≤1000000000000):f12 a n=some (within a n,()):=by
 have:=pa a n h;unfold f12 within;simp only[Option.bind_some,af];rw[if_neg (by omega)]
 split
 ·rw[wr (by omega)];rfl
 ·rfl
abbrev WT:=Int×Int×Int×Int×Int×Int×Int×Int×List Int×List ag×List ak×Unit
theorem zG(s:Int):OK (f19 s) fun z=>lF s 0 z∧z.2.2.2.1=0:=by
 refine(yO s).mono fun z hz=>?_
 obtain⟨l,its,rfl,h,_⟩:=hz;exact⟨⟨rfl,rfl,rfl,h,(by decide:(1:Int)≤1),(by decide:(1:Int)≤3),(by decide:(0:Int)≤0∧(0:Int)≤2),fun z=>absurd (show (0:Int)=1 from z) (by decide)⟩,rfl⟩
section
variable (h0 i0:Int) (p0:Bool) (h1 i1:Int) (p1:Bool) (h2 i2:Int) (p2:Bool) (h3 i3:Int) (p3:Bool)
theorem wK{s fr:Int}(hf:0≤fr∧fr≤100000){z:WT}(h:lF s fr z):OK (f20 z.1 z.2.1 z.2.2.1 z.2.2.2.1 z.2.2.2.2.2.2.2.2.1 z.2.2.2.2.2.2.2.2.2.1 z.2.2.2.2.2.2.2.2.2.2.1 z.2.2.2.2.1 z.2.2.2.2.2.1 z.2.2.2.2.2.2.1 z.2.2.2.2.2.2.2.1 h0 i0 p0 h1 i1 p1 h2 i2 p2 h3 i3 p3) (lF s (fr+1)):=by
 obtain⟨s',fr',fl,sta,g0,g1,g2,g3,c,l,its,u⟩:=z;obtain⟨e1,e2,hw⟩:=h;dsimp only at e1 e2 hw ⊢;subst e1 e2;obtain⟨z,ez,_,hz⟩:=xv s' fr' fl sta g0 g1 g2 g3 h0 i0 p0 h1 i1 p1 h2 i2 p2 h3 i3 p3 hf hw;exact⟨z,ez,hz⟩
end
theorem CE{s fr:Int}(hf:0≤fr∧fr≤100000){z:WT}(h:lF s fr z):f18 z.1 z.2.1 z.2.2.1 z.2.2.2.1 z.2.2.2.2.2.2.2.2.1 z.2.2.2.2.2.2.2.2.2.1 z.2.2.2.2.2.2.2.2.2.2.1 z.2.2.2.2.1 z.2.2.2.2.2.1 z.2.2.2.2.2.2.1 z.2.2.2.2.2.2.2.1=some (0,()):=by
 obtain⟨e1,e2,hw⟩:=h;rw[e1,e2];exact BZ _ _ _ _ _ _ _ _ hf hw
theorem BT:f10=some (true,()):=by
 refine OK.eq ?_;unfold f10 f10.L1;refine OK.aD (zG 3) fun z0 hz0=>?_
 refine OK.loop (fun j:Nat×WT=>((j.1:Int),j.2.1,j.2.2.1,j.2.2.2.1,j.2.2.2.2.1,j.2.2.2.2.2.1,j.2.2.2.2.2.2.1,j.2.2.2.2.2.2.2.1,j.2.2.2.2.2.2.2.2.1,j.2.2.2.2.2.2.2.2.2.1,j.2.2.2.2.2.2.2.2.2.2.1,j.2.2.2.2.2.2.2.2.2.2.2.1,())) (fun j=>j.1≤30∧lF 3 j.1 j.2) (fun j=>30-j.1) (fun rec j hj ih=>?_) (0,z0) rfl ⟨Nat.zero_le _,hz0.1⟩ (by dsimp only;omega)
 obtain⟨n,z⟩:=j;obtain⟨hn,hw⟩:=hj;dsimp only at hn hw ih ⊢;rw[af,wr (x:=(n:Int)+1) (by omega)]
 by_cases q:n<30
 ·rw[if_pos (by omega)]
  refine OK.aD (wK _ _ _ _ _ _ _ _ _ _ _ _ (by omega) hw) fun y hy=>?_
  exact ih (n+1,y) ⟨by dsimp only;omega,hy⟩ (by dsimp only;omega) _ rfl
 ·have:n=30:=by omega
  subst this;rw[if_neg (by omega),CE (by omega) hw,hw.2.1]
  exact OK.ret rfl
end Go.Proofs.YthdgahpomhnidaaGreat.Tp
namespace Go.Proofs.YthdgahpomhnidaaGreat.Tp
open Go Mx Pc Run Field Gen GenL Fl Wd Ft Ln Nav Mn
set_option maxHeartbeats 2000000
section
variable (s fr fl sta g0 g1 g2 g3:Int)
theorem l6{l:List ag}:cL l=true↔∃i,i<32∧kd (l.getD i eN)=1:=by
 unfold cL;cases e:(List.range 32).find? fun i=>kd (l.getD i eN)==1 with
 | none =>
  refine⟨(fun h=>by cases h),fun⟨i,hi,hk⟩=>?_⟩
  have:=List.find?_range_eq_none.1 e i hi;rw[hk]at this;cases this
 | some k =>
  obtain⟨h1,h2,_⟩:=List.find?_range_eq_some.1 e;exact⟨fun _=>⟨k,List.mem_range.1 h2,beq_iff_eq.1 h1⟩,fun _=>rfl⟩
theorem pe{c:List Int}{c':List Int}{l:List ag}(h:EI c l)(its:List ak):f80 s fr fl sta c' l its g0 g1 g2 g3=some (cL l,()):=by
 have hl:=h.len;unfold f80 f80.L1;refine(it_find (fun i:Nat=>decide (0≤ai l i)) 4 (fun i:Nat=>((i:Int),s,fr,fl,sta,c',l,its,g0,g1,g2,g3,())) (fun _=>some (true,())) (some (false,())) (fun rec i hi=>?_) (by decide) rfl).trans ?_
 ·dsimp only
  rw[af]
  by_cases q:i<4
  ·rw[if_pos (by omega),if_pos q,ga l (by omega),wr (x:=(i:Int)+1) (by omega)]
   simp only[Option.bind_some];rw[cH];rfl
  ·rw[if_neg (by omega),if_neg q]
 ·cases e:(List.range 4).find? fun i:Nat=>decide (0≤ai l i) with
  | none =>
   have:cL l=false:=by
    cases ea:cL l with
    | false=>rfl
    | true =>
     obtain⟨i,hi,hk⟩:=l6.1 ea;have hs:=(h.taken i hi (by rw[hk];decide)).aJ.1 hk
     have:=List.find?_range_eq_none.1 e (st (l.getD i eN)).toNat (by omega)
     rw[Int.toNat_of_nonneg hs.1]at this;have h0:ai l (st (l.getD i eN))<0:=by simpa using this
     have:=du.1 h0 i (by omega)
     unfold bC at this;rw[hk]at this;simp at this
   rw[this]
  | some k =>
   obtain⟨h1,h2,_⟩:=List.find?_range_eq_some.1 e;have h1:0≤ai l k:=by simpa using h1
   obtain⟨r,hr,_,hk,_⟩:=cI hl (s:=k) (by omega)
   have:cL l=true:=l6.2 ⟨r,hr,hk⟩;rw[this]
theorem uU{l:List ag}(hl:l.length=32)(e:ag)(hk:1≤kd e∧kd e≤4) :
  f83_1 e.1 e.2.1 e.2.2.1 e.2.2.2.1 e.2.2.2.2.1 e.2.2.2.2.2.1 e.2.2.2.2.2.2.1 e.2.2.2.2.2.2.2.1 e.2.2.2.2.2.2.2.2.1 e.2.2.2.2.2.2.2.2.2.1 e.2.2.2.2.2.2.2.2.2.2 l=some (spP l e,()):=by
 unfold f83_1 spP;rw[zt hl e hk];cases firstFree l<;>rfl
theorem Cy{c:List Int}(hc:CB c){l:List ag}(hE:cM l){m:Int}(hm:GC m):f132 c l (m%24) (m/24)=some (aZ c l m,()):=by
 obtain⟨v,e1,e2⟩:=GG c hc l hE (m%24) (m/24);rw[(jO hc hE hm).1]at e1;cases e1;exact e2
noncomputable def fW(s fl:Int)(l:List ag)(e:ag):ag×Bool:=if aZ (cells s fl) l (aG s fl)<0 then (e,false) else (fH e (aZ (cells s fl) l (aG s fl)%24) (aZ (cells s fl) l (aG s fl)/24),true)
theorem xp(a0 a1 a2 a3 a7 a8 a9 a10:Int){l:List ag}(hE:cM l)(its:List ak)(e:ag) :
  f82 a0 a1 a2 a3 (cells s fl) l its a7 a8 a9 a10 e.1 e.2.1 e.2.2.1 e.2.2.2.1 e.2.2.2.2.1 e.2.2.2.2.2.1 e.2.2.2.2.2.2.1 e.2.2.2.2.2.2.2.1 e.2.2.2.2.2.2.2.2.1 e.2.2.2.2.2.2.2.2.2.1 e.2.2.2.2.2.2.2.2.2.2 =
   some ((fW s fl l e).1.1,(fW s fl l e).1.2.1,(fW s fl l e).1.2.2.1,(fW s fl l e).1.2.2.2.1,(fW s fl l e).1.2.2.2.2.1,(fW s fl l e).1.2.2.2.2.2.1,(fW s fl l e).1.2.2.2.2.2.2.1,(fW s fl l e).1.2.2.2.2.2.2.2.1,(fW s fl l e).1.2.2.2.2.2.2.2.2.1,(fW s fl l e).1.2.2.2.2.2.2.2.2.2.1,(fW s fl l e).1.2.2.2.2.2.2.2.2.2.2,(fW s fl l e).2,()):=by
 have g:=cG s fl;have g':=g;unfold GC at g';unfold f82 fW;rw[uc (cells s fl) (bX s fl) (bR s fl),rG];simp only[Option.bind_some];rw[af,if_neg (by omega),Int.tmod_eq_emod_of_nonneg g'.1,Int.tdiv_eq_ediv_of_nonneg g'.1,wr (x:=aG s fl/24) (by omega),Cy (bX s fl) hE g]
 simp only[Option.bind_some];rw[af]
 by_cases q:aZ (cells s fl) l (aG s fl)<0
 ·rw[if_pos q,if_pos q]
 ·rw[if_neg q,if_neg q]
  have b:=((jO (bX s fl) hE g).2.1.resolve_left q).1;unfold GC at b;rw[Int.tmod_eq_emod_of_nonneg b.1,Int.tdiv_eq_ediv_of_nonneg b.1,wr (x:=aZ (cells s fl) l (aG s fl)/24) (by omega)]
  rfl
theorem Cf{d:Int}(h:¬(1≤d∧d≤4)):f135 d=some (0,0,()):=by
 unfold f135;rw[beq_eq_false_iff_ne.2 (show d≠1 by omega),cond_false,beq_eq_false_iff_ne.2 (show d≠2 by omega),cond_false,beq_eq_false_iff_ne.2 (show d≠3 by omega),cond_false,beq_eq_false_iff_ne.2 (show d≠4 by omega),cond_false]
noncomputable def rj(s fr:Int)(c:List Int)(l:List ag)(its:List ak)(row:Nat)(d:Int):List ag×List ak:=if 1≤d∧d≤4 then gr s fr c l its row (d-1).toNat else (l,its)
theorem xA{c:List Int}(hc:CC c){l:List ag}{its:List ak}(h:EI c l)(hI:aH c its){row:Nat}(hr:row<32)(hk:kd (l.getD row eN)≠0)(d:Int) :
  f85_1 s fr fl sta g0 g1 g2 g3 (row:Int) d (!(kd (l.getD row eN)==1)) c l its=some (s,fr,fl,sta,g0,g1,g2,g3,c,(rj s fr c l its row d).1,(rj s fr c l its row d).2,()):=by
 have hl:=h.len;have hcl:=hc.len;have hil:=hI.len;unfold f85_1 rj
 by_cases qd:1≤d∧d≤4
 ·rw[if_pos qd]
  obtain⟨j,hj,ej⟩:∃j:Nat,j<4∧d=1+(j:Int):=⟨(d-1).toNat,by omega,by omega⟩
  subst ej;rw[show (1+(j:Int)-1).toNat=j by omega,lk j hj]
  simp only[Option.bind_some];have D:=dd j hj;have hnz:(ddx j==0&&bf j==0)=false:=by
   have:j=0∨j=1∨j=2∨j=3:=by omega
   rcases this with rfl | rfl | rfl | rfl<;>decide
  have hp':=(h.taken row hr hk).pos;have eX:(l.getD row Run.zE).2.2.2.1=ex (l.getD row eN):=rfl;have eY:(l.getD row Run.zE).2.2.2.2.1=ey (l.getD row eN):=rfl;have irow:ae (row:Int) 32=true:=ao (by omega)
  have gs:∀e:ag,(l.set row e).getD row Run.zE=e:=fun e=>by
   have:=bn l row row e eN (by omega)
   rw[if_pos rfl]at this;exact this
  have sl:∀e:ag,(l.set row e).length=32:=fun e=>by rw[List.length_set];exact hl
  refine OK.eq ?_;refine OK.aD (R:=fun y=>y=Sum.inl ((row:Int),!(kd (l.getD row eN)==1),ddx j,bf j,s,fr,fl,sta,g0,g1,g2,g3,0,0,0,0,0,0,0,0,c,l,its,())) ?_ ?_
  ·cases ea:ddx j==0 with
   | false=>exact OK.ret rfl
   | true =>
    rw[ea,Bool.true_and]at hnz;rw[cond_true,hnz];exact OK.ret rfl
  ·rintro _ rfl
   simp only[Sum.elim_inl];unfold gr;rw[hl,irow,cond_true,cond_true,Int.toNat_natCast,eX,eY,wr (x:=ex (l.getD row eN)+ddx j) (by omega),wr (x:=ey (l.getD row eN)+bf j) (by omega),nv l (by omega)]
   simp only[Option.bind_some];have ab:=tA l (ex (l.getD row eN)+ddx j) (ey (l.getD row eN)+bf j);generalize hx:ex (l.getD row eN)+ddx j=x at *
   generalize hy:ey (l.getD row eN)+bf j=y at *
   generalize hto:cg l x y=to at *
   rw[af]
   by_cases q:to<0
   ·rw[if_neg (by omega),if_pos q,tf c hc.cb]
    simp only[Option.bind_some];rw[j3];simp only[Option.bind_some];cases hw:aQ (dp c x y) with
    | false =>
     simp only[cond_false,Bool.false_eq_true,if_false];exact OK.ret rfl
    | true =>
     rw[cond_true,fj s fr fl sta c g0 g1 g2 g3 (by omega) (by omega) (by omega)]
     simp only[Option.bind_some,if_true,hl,irow,cond_true,Int.toNat_natCast,sl,gs,List.set_set];exact OK.ret rfl
   ·rw[if_pos (by omega),if_neg q]
    have ito:ae to 32=true:=ao (by omega)
    have eT:(l.getD to.toNat Run.zE).1=kd (l.getD to.toNat eN):=rfl;rw[ito,cond_true,eT];have hb:((kd (l.getD to.toNat eN)==1)==!(kd (l.getD row eN)==1))=(!((kd (l.getD to.toNat eN)==1)==(kd (l.getD row eN)==1))):=by
     cases kd (l.getD to.toNat eN)==1<;>cases kd (l.getD row eN)==1<;>rfl
    rw[hb];cases eb:(!((kd (l.getD to.toNat eN)==1)==(kd (l.getD row eN)==1))) with
    | false =>
     simp only[cond_false,Option.bind_some,Sum.elim_inl];exact OK.ret (by simp)
    | true =>
     rw[cond_true,DA s fr fl sta c g0 g1 g2 g3 (by omega) h.r9 (iJ hI) (row:Int) to]
     simp only[Option.bind_some,Sum.elim_inl];exact OK.ret (by simp)
 ·rw[if_neg qd,Cf qd]
  rfl
end
end Go.Proofs.YthdgahpomhnidaaGreat.Tp
namespace Go.Proofs.YthdgahpomhnidaaGreat.Tp
open Go Mx Pc Run Field Gen GenL Fl Wd Ft Ln Nav Mn
set_option maxHeartbeats 2000000
def uF(x:ak):Bool:=x.1==0&&(x.2.1==0&&(x.2.2.1==0&&(x.2.2.2==0&&true)))
def lay1(o:List ak)(x:ak):List ak:=match (List.range 40).find? fun i=>uF (o.getD i iN) with
 | some i=>o.set i x
 | none=>o
theorem B3(o:List ak)(x:ak):(lay1 o x).length=o.length:=by
 unfold lay1;split
 ·rw[List.length_set]
 ·rfl
theorem sT{α β:Type}(f:α→β→α)(a:α)(l:List β)(d:β){n:Nat}(h:n<l.length):(l.take (n+1)).foldl f a=f ((l.take n).foldl f a) (l.getD n d):=by
 rw[List.take_succ_eq_append_getElem h,List.foldl_append,List.getD_eq_getElem?_getD,List.getElem?_eq_getElem h];rfl
theorem ur(more:List ak):∀o:List ak,(more.foldl lay1 o).length=o.length:=by
 induction more with
 | nil=>exact fun o=>rfl
 | cons x more ih=>exact fun o=>by rw[List.foldl_cons,ih,B3]
theorem Bj(o:List ak)(h:o.length=40):f157 o 0 0 0 0=some (match (List.range 40).find? fun i=>uF (o.getD i iN) with | some i=>(i:Int) | none=>-1,()):=by
 unfold f157 f157.L1;refine(it_find (x:=(o,(o.length:Int),0,0,0,0,0,())) (fun i=>uF (o.getD i iN)) 40 (fun i:Nat=>(o,(o.length:Int),(i:Int),0,0,0,0,())) (fun i=>some ((i:Int),())) (some (-1,())) (fun rec i hi=>?_) (by decide) rfl).trans ?_
 ·dsimp only
  rw[af]
  by_cases q:i<40
  ·rw[if_pos (by omega),if_pos q,ao (by omega),cond_true,wr (x:=(i:Int)+1) (by omega),Int.toNat_natCast,cH]
   have e:∀a:Int,((0:Int)==a)=(a==0):=fun a=>by rw[Bool.eq_iff_iff,beq_iff_eq,beq_iff_eq];exact eq_comm
   rw[e,e,e,e];rfl
  ·rw[if_neg (by omega),if_neg q]
 ·cases (List.range 40).find? fun i=>uF (o.getD i iN)<;>rfl
theorem Gw(its more:List ak)(hl:its.length=40)(hm:more.length≤1000):f102 its more=some (more.foldl lay1 its,()):=by
 refine OK.eq ?_;unfold f102;rw[Gd.g9 its (by omega)]
 simp only[Option.bind_some];unfold f102.L1;refine OK.loop (fun n:Nat=>(more,(more.length:Int),(n:Int),(more.take n).foldl lay1 its,())) (fun n=>n≤more.length) (fun n=>more.length-n) (fun rec n hn ih=>?_) 0 rfl (Nat.zero_le _) (by omega)
 have ol:((more.take n).foldl lay1 its).length=40:=by rw[ur,hl]
 dsimp only;rw[af]
 by_cases q:n<more.length
 ·have nx:=ih (n+1) (by omega) (by omega) _ rfl
  rw[sT lay1 its more iN q]at nx;generalize (more.take n).foldl lay1 its=o at *
  have e40:aX (o.length:Int) 40=40:=by rw[br];omega
  have er:List.drop 0 (List.take (Int.toNat (40:Int)) o)=o:=by rw[List.drop_zero];exact List.take_of_length_le (by omega)
  rw[if_pos (by omega),ao (by omega),cond_true,e40,decide_eq_true (by omega),cond_true,wr (x:=(n:Int)+1) (by omega),Int.toNat_natCast,er,Bj o ol]
  simp only[Option.bind_some];unfold lay1 at nx;cases ef:(List.range 40).find? fun i=>uF (o.getD i iN) with
  | none =>
   rw[ef]at nx;rw[af,if_neg (by decide)]
   exact nx
  | some i =>
   rw[ef]at nx;have hi:=List.mem_range.1 (List.find?_range_eq_some.1 ef).2.1;dsimp only;rw[af,if_pos (by omega),ao (by omega),cond_true,Int.toNat_natCast]
   exact nx
 ·rw[if_neg (by omega)]
  exact OK.ret (by rw[List.take_of_length_le (by omega)])
theorem D9(its more:List ak)(hl:its.length=40)(hm:more.length≤1000):me its more=more.foldl lay1 its:=by
 unfold me;rw[Gw its more hl hm];rfl
theorem El(its more:List ak)(hl:its.length=40)(hm:more.length≤1000):f124 its more=some (me its more,()):=by
 rw[D9 its more hl hm];refine OK.eq ?_;unfold f124;rw[decide_eq_true (by simp[aB];omega),cond_true]
 unfold f124.L2;refine OK.loop (fun n:Nat=>(more,(n:Int),(more.take n).foldl lay1 its,())) (fun n=>n≤more.length) (fun n=>more.length-n) (fun rec n hn ih=>?_) 0 rfl (Nat.zero_le _) (by omega)
 have ol:((more.take n).foldl lay1 its).length=40:=by rw[ur,hl]
 dsimp only;rw[af]
 by_cases q:n<more.length
 ·have nx:=ih (n+1) (by omega) (by omega) _ rfl
  rw[sT lay1 its more iN q]at nx;generalize (more.take n).foldl lay1 its=o at *
  rw[if_pos (by omega)]
  unfold f124.L1;unfold lay1 at nx;refine Eq.mpr (congrArg (fun o=>OK o _) (it_find (x:=(more,(n:Int),0,o,())) (fun i=>uF (o.getD i iN)) 40 (fun i:Nat=>(more,(n:Int),(i:Int),o,())) (fun i=>rec (more,((n+1:Nat):Int),o.set i (more.getD n iN),())) (rec (more,((n+1:Nat):Int),o,())) (fun rec' i hi=>?_) (by decide) rfl)) ?_
  ·dsimp only
   rw[af,af]
   by_cases p:i<40
   ·rw[if_pos (by omega),if_pos (by omega),if_pos p,ao (by omega),cond_true,cond_true,ao (by omega),cond_true,wr (x:=(i:Int)+1) (by omega),wr (x:=(n:Int)+1) (by omega),Int.toNat_natCast,Int.toNat_natCast,cH]
    rfl
   ·rw[if_neg (by omega),if_neg p,wr (x:=(n:Int)+1) (by omega)]
    rfl
  ·cases ef:(List.range 40).find? fun i=>uF (o.getD i iN) with
   | none=>rw[ef]at nx;exact nx
   | some i=>rw[ef]at nx;exact nx
 ·rw[if_neg (by omega)]
  exact OK.ret (by rw[List.take_of_length_le (by omega)])
theorem sO(s fl:Int)(a0 a1 a2 a3 a4 a5 a6 a7:Int)(c:List Int){l its es more}(h:EI (cells s fl) l)(hi:its.length=40)(hm:more.length≤1000)(he:es.length≤384)(hes:∀i,i<es.length→Tk (cells s fl) (es.getD i eN)∧kd (es.getD i eN)≠1) :
  f65_1 a0 a1 a2 a3 a4 a5 a6 a7 c l its es more=some (a0,a1,a2,a3,a4,a5,a6,a7,c,its,es,more,mK l es,me its more,()):=by
 refine OK.eq ?_;unfold f65_1 f65_1.L1;refine OK.loop (fun n:Nat=>((n:Int),c,its,es,more,a0,a1,a2,a3,a4,a5,a6,a7,0,0,0,0,0,0,0,0,mK l (es.take n),())) (fun n=>n≤es.length∧EI (cells s fl) (mK l (es.take n))) (fun n=>es.length-n) (fun rec n hj ih=>?_) 0 rfl ⟨Nat.zero_le _,h⟩ (by omega)
 obtain⟨hn,hE⟩:=hj;dsimp only;rw[af]
 by_cases q:n<es.length
 ·obtain⟨ht,hk⟩:=hes n q
  have nx:=fun hq=>ih (n+1) ⟨by omega,hq⟩ (by omega) _ rfl
  rw[pT l es q]at nx;have nx:=nx (uf hE ht hk);generalize mK l (es.take n)=l1 at *
  have aE:=nv l1 (by have:=hE.len;omega) (ex (es.getD n eN)) (ey (es.getD n eN))
  have k:=uU hE.len (es.getD n eN) ht.kind;have ir:ae (n:Int) es.length=true:=ao (by omega)
  rw[if_pos (by omega),ir,cond_true,cond_true,wr (x:=(n:Int)+1) (by omega),Int.toNat_natCast]
  refine OK.call aE ?_;dsimp only at nx ⊢;rw[af]
  by_cases p:cg l1 (ex (es.getD n eN)) (ey (es.getD n eN))<0
  ·rw[if_pos p]at nx ⊢
   rw[cond_true];refine OK.call k ?_;exact nx
  ·rw[if_neg p]at nx ⊢
   exact nx
 ·rw[if_neg (by omega),El its more hi hm]
  exact OK.ret (by rw[List.take_of_length_le (by omega)])
theorem B9(n:Int):ai (List.replicate 32 eN) n<0:=by
 unfold ai;rw[du];intro i hi;have g:(List.replicate 32 eN).getD i eN=eN:=by
  rw[List.getD_eq_getElem?_getD,List.getElem?_replicate];split<;>rfl
 rw[g];rfl
theorem sK(s fl:Int):∀n,gL s fl (List.replicate 32 eN) n=(List.replicate 32 eN,List.replicate 32 eN)
 | 0=>rfl
 | n+1=>by
  rw[kI,sK s fl n];exact if_pos (B9 n)
theorem Ew(c:List Int):EI c (List.replicate 32 eN):=by
 have g:∀i,(List.replicate 32 eN).getD i eN=eN:=fun i=>by
  rw[List.getD_eq_getElem?_getD,List.getElem?_replicate];split<;>rfl
 refine⟨List.length_replicate,fun i _=>?_,fun i _ _=>?_,fun i _ hk=>?_,fun i j _ _ hk=>?_,fun i j _ _ hk=>?_⟩
 ·rw[g];decide
 ·rw[g];rfl
 ·rw[g]at hk;exact absurd rfl hk
 ·rw[g]at hk;exact absurd rfl hk
 ·rw[g]at hk;exact absurd hk (by decide)
theorem DZ(s:Int):f30 s=f19 s:=by
 obtain⟨z,ez,l,its,rfl,_,hF⟩:=yO s;rw[ez];obtain⟨es,ees,hes,hmon⟩:=jI s 1;obtain⟨more,em,hm7,_,_⟩:=je s 1;unfold iz at hF;rw[←ees,←em,sK]at hF;unfold f30;rw[pE s 1 (by decide) (by decide)]
 simp only[Option.bind_some];rw[←ees,←em,show (floor s 1).1=cells s 1 from rfl]
 have k:=sO s 1 s 0 1 0 0 0 0 0 (cells s 1) (its:=List.replicate 40 iN) (Ew (cells s 1)) List.length_replicate (show more.length≤1000 by omega) hes hmon
 refine(congrArg (fun o=>Option.bind o _) k).trans ?_
 rw[show l=_ from congrArg Prod.fst hF,show its=_ from congrArg Prod.snd hF]
 rfl
theorem tH{c:List Int}(hc:CB c){l:List ag}(hE:cM l){m:Int}(hm:GC m):∃f,bm (bj c []) (eL c [m]) f∧aZ c l m=best f l 384:=by
 have hm':=hm;unfold GC at hm';have key:OK (f109 c l (m%24) (m/24)) fun z=>∃f,bm (bj c []) (eL c [m]) f∧z.1=best f l 384:=by
  unfold f109;rw[fe,if_pos (by omega),show m/24*24+m%24=m by omega]
  simp only[Option.bind_some];refine OK.aD (iK c hc [] [m] (by simp)) fun f hf=>?_
  exact(kM f.1 hf.len l hE).mono fun z hz=>⟨f.1,hf,hz⟩
 obtain⟨z,e,f,hf,hz⟩:=key;exact⟨f,hf,by unfold aZ;rw[e];exact hz⟩
theorem sX(f:List Int){l l':List ag}(h:∀x y,fm l x y↔fm l' x y):∀i,best f l i=best f l' i
 | 0=>rfl
 | i+1=>by
  have ih:=sX f h i
  by_cases q:0≤Field.rd f (i:Int)∧fm l ((i:Int)%24) ((i:Int)/24)∧(best f l i<0∨Field.rd f (i:Int)<Field.rd f (best f l i))
  ·rw[gO q,gO ⟨q.1,(h _ _).1 q.2.1,by rw[←ih];exact q.2.2⟩]
  ·rw[eJ q,eJ (fun z=>q ⟨z.1,(h _ _).2 z.2.1,by rw[ih];exact z.2.2⟩),ih]
theorem zy{c:List Int}(hc:CB c){l l':List ag}(hE:cM l)(hE':cM l')(h:∀x y,fm l x y↔fm l' x y){m:Int}(hm:GC m):aZ c l m=aZ c l' m:=by
 obtain⟨f,hf,e⟩:=tH hc hE hm;obtain⟨f',hf',e'⟩:=tH hc hE' hm;obtain rfl:=kK hf' hf;rw[e,e',sX _ h]
noncomputable def den(s fl:Int)(old D:List ag)(n:Nat):List ag:=if ai old n<0 then D else D.set (ai old n).toNat (fW s fl D (old.getD (ai old n).toNat eN)).1
noncomputable def m8(s fl:Int)(old:List ag)(n:Nat):List ag:=(List.range n).foldl (den s fl old) (old.map cO)
theorem sD(s fl:Int)(old:List ag)(n:Nat):m8 s fl old (n+1)=den s fl old (m8 s fl old n) n:=by
 unfold m8;rw[List.range_succ,List.foldl_append];rfl
structure DR (l l1 p D:List ag) (n:Int):Prop where
 len:l1.length=32∧p.length=32∧D.length=32
 put:∀i,i<32→kd (l.getD i eN)=1→st (l.getD i eN)<n→l1.getD i eN=D.getD i eN∧p.getD i eN=D.getD i eN∧kd (D.getD i eN)=1∧st (D.getD i eN)=st (l.getD i eN)
 out:∀i,i<32→¬(kd (l.getD i eN)=1∧st (l.getD i eN)<n)→l1.getD i eN=cu (l.getD i eN)∧p.getD i eN=eN∧D.getD i eN=cO (l.getD i eN)
theorem getD_map{α β:Type}(f:α→β)(l:List α)(a:α)(b:β)(h:f a=b)(i:Nat):(l.map f).getD i b=f (l.getD i a):=by
 rw[List.getD_eq_getElem?_getD,List.getElem?_map,List.getD_eq_getElem?_getD];cases l[i]?<;>simp[h]
theorem r7(s fl:Int)(h1:1≤fl)(h2:fl≤3){c:List Int}{l:List ag}(h:EI c l)(hP:PH (l.map cu)):∀n:Nat,n≤4→DR l (gL s fl (l.map cu) n).1 (gL s fl (l.map cu) n).2 (m8 s fl l n) n
 | 0,_=>by
  have hl:=h.len;refine⟨⟨by show (l.map cu).length=32;rw[List.length_map];exact hl,List.length_replicate,by show (l.map cO).length=32;rw[List.length_map];exact hl⟩,fun i hi hk hs=>?_,fun i hi _=>⟨getD_map cu l eN eN rfl i,?_,getD_map cO l eN eN rfl i⟩⟩
  ·have:=(h.taken i hi (by rw[hk];decide)).aJ.1 hk
   omega
  ·show (List.replicate 32 eN).getD i eN=eN
   rw[List.getD_eq_getElem?_getD,List.getElem?_replicate];split<;>rfl
 | n+1,hn=>by
  have hl:=h.len;have R:=r7 s fl h1 h2 h hP n (by omega)
  have hS:=nM s fl h1 h2 hP n (by omega)
  obtain⟨hE,hge,_⟩:=rf s fl h1 h2 (by omega) hS
  rw[kI,sD];generalize gL s fl (l.map cu) n=P at *
  generalize m8 s fl l n=D at *
  obtain⟨l1,p⟩:=P;dsimp only at R hS hE hge ⊢;obtain⟨⟨r1,r2,r3⟩,rp,ro⟩:=R;have her:ai l1 n=ai l n:=by
   unfold ai;rw[r1,hl]
   congr 2
   funext i
   by_cases hi:i<32
   ·unfold bC
    by_cases q:kd (l.getD i eN)=1∧st (l.getD i eN)<n
    ·obtain⟨a,_,b,d⟩:=rp i hi q.1 q.2
     rw[a,b,d,q.1]
    ·rw[(ro i hi q).1]
     unfold cu;split
     ·rename_i z
      have e1:(kd (l.getD i eN)==1)=false:=beq_eq_false_iff_ne.2 z.2;rw[e1];rfl
     ·rfl
   ·rw[List.getD_eq_getElem?_getD,List.getElem?_eq_none (by omega),List.getD_eq_getElem?_getD,List.getElem?_eq_none (by omega)]
  unfold vc den;rw[her]
  by_cases q1:ai l n<0
  ·rw[if_pos q1,if_pos q1]
   have no:∀i,i<32→kd (l.getD i eN)=1→st (l.getD i eN)≠n:=fun i hi hk hs=>by
    have:=du.1 q1 i (by omega)
    unfold bC at this;rw[hk,hs]at this;simp at this
   refine⟨⟨r1,r2,r3⟩,fun i hi hk hs=>rp i hi hk (by have:=no i hi hk;omega),fun i hi q=>ro i hi fun z=>q ⟨z.1,by omega⟩⟩
  ·have hge:=hge (by rw[her];exact q1)
   obtain⟨r,hr,er,hk,hst,_⟩:=cI hl q1;have hrn:¬(kd (l.getD r eN)=1∧st (l.getD r eN)<n):=by omega
   obtain⟨o1,o2,o3⟩:=ro r hr hrn;have ec:cu (l.getD r eN)=l.getD r eN:=if_neg fun z=>z.2 hk
   have hEd:cM D:=⟨r3,fun i hi=>by
    by_cases q:kd (l.getD i eN)=1∧st (l.getD i eN)<n
    ·obtain⟨_,b,k1,_⟩:=rp i (by omega) q.1 q.2
     have:=hE.2 i (by omega)
     rw[b]at this;exact this
    ·rw[(ro i (by omega) q).2.2]
     exact .inl rfl⟩
   have hF:∀x y,fm p x y↔fm D x y:=fun x y=>by
    have e:∀i,i<32→(kd (p.getD i eN)=kd (D.getD i eN)∧(kd (D.getD i eN)≠0→p.getD i eN=D.getD i eN)):=fun i hi=>by
     by_cases q:kd (l.getD i eN)=1∧st (l.getD i eN)<n
     ·rw[(rp i hi q.1 q.2).2.1]
      exact⟨rfl,fun _=>rfl⟩
     ·rw[(ro i hi q).2.1,(ro i hi q).2.2]
      exact⟨rfl,fun z=>absurd rfl z⟩
    constructor
    ·intro z i hi hk
     have ee:=e i (by omega)
     have:=z i (by omega) (show kd (p.getD i eN)≠0 by rw[ee.1];exact hk)
     rw[show p.getD i e0=D.getD i e0 from ee.2 hk]at this
     exact this
    ·intro z i hi hk
     have ee:=e i (by omega)
     have hk':kd (D.getD i eN)≠0:=by rw[←ee.1];exact hk
     have:=z i (by omega) hk'
     rw[←show p.getD i e0=D.getD i e0 from ee.2 hk']at this
     exact this
   have esp:aZ (cells s fl) D (aG s fl)=aZ (cells s fl) p (aG s fl):=(zy (bX s fl) hE hEd hF (cG s fl)).symm;have ep:(fW s fl D (l.getD r eN)).1=fH (l.getD r eN) (aZ (cells s fl) p (aG s fl)%24) (aZ (cells s fl) p (aG s fl)/24):=by
    unfold fW;rw[esp,if_neg (by omega)]
   rw[if_neg q1,if_neg q1,er,Int.toNat_natCast];dsimp only;rw[o1,ec,ep];refine⟨⟨by rw[List.length_set];exact r1,by rw[List.length_set];exact r2,by rw[List.length_set];exact r3⟩,fun i hi hki hsi=>?_,fun i hi q=>?_⟩
   ·rw[bn _ _ _ _ _ (by omega),bn _ _ _ _ _ (by omega),bn _ _ _ _ _ (by omega)]
    by_cases e:r=i
    ·subst e
     rw[if_pos rfl,if_pos rfl,if_pos rfl];exact⟨rfl,rfl,hk,rfl⟩
    ·rw[if_neg e,if_neg e,if_neg e]
     have:st (l.getD i eN)≠n:=fun z=>e (h.fq r i hr hi hk hki (by rw[hst,z]))
     exact rp i hi hki (by omega)
   ·have e:r≠i:=fun z=>by
     subst z;exact q ⟨hk,by omega⟩
    rw[bn _ _ _ _ _ (by omega),bn _ _ _ _ _ (by omega),bn _ _ _ _ _ (by omega),if_neg e,if_neg e,if_neg e]
    exact ro i hi fun z=>q ⟨z.1,by omega⟩
theorem Dp{l l':List ag}(hl:l.length=32)(hl':l'.length=32)(g:∀i,i<32→l.getD i eN=l'.getD i eN):l=l':=by
 refine List.ext_getElem? fun i=>?_
 by_cases q:i<32
 ·have:=g i q
  rw[List.getD_eq_getElem?_getD,List.getElem?_eq_getElem (by omega),List.getD_eq_getElem?_getD,List.getElem?_eq_getElem (by omega)]at this
  rw[List.getElem?_eq_getElem (by omega),List.getElem?_eq_getElem (by omega)]
  exact congrArg some this
 ·rw[List.getElem?_eq_none (by omega),List.getElem?_eq_none (by omega)]
theorem BH(s fl:Int)(h1:1≤fl)(h2:fl≤3){c:List Int}{l:List ag}(h:EI c l)(hP:PH (l.map cu)):m8 s fl l 4=(gL s fl (l.map cu) 4).1:=by
 obtain⟨⟨r1,_,r3⟩,rp,ro⟩:=r7 s fl h1 h2 h hP 4 (Nat.le_refl _);refine Dp r3 r1 fun i hi=>?_
 ·by_cases q:kd (l.getD i eN)=1
  ·have:=(h.taken i hi (by rw[q];decide)).aJ.1 q
   exact(rp i hi q (by omega)).1.symm
  ·obtain⟨a,_,b⟩:=ro i hi fun z=>q z.1
   rw[a,b];unfold cu;split
   ·rfl
   ·rename_i z
    exact(h.free i hi (Classical.byContradiction fun w=>z ⟨w,q⟩)).symm
end Go.Proofs.YthdgahpomhnidaaGreat.Tp
namespace Go.Proofs.YthdgahpomhnidaaGreat.Tp
open Go Mx Pc Run Field Gen GenL Fl Wd Ft Ln Nav Mn
set_option maxHeartbeats 2000000
theorem ug{l:List ag}(hl:l.length=32){n:Nat}(hn:n<32):f149 l n=some (l.set n (cO (l.getD n eN)),()):=by
 have ir:ae (n:Int) l.length=true:=ao (by omega)
 unfold f149;rw[decide_eq_true (by simp[aB];omega),cond_true,af,if_pos (by omega),af,if_pos (by omega),ir,cond_true,cond_true]
 rfl
section
variable (s fr fl sta g0 g1 g2 g3:Int)
theorem Ai(fl':Int)(c c':List Int){l:List ag}(hl:l.length=32)(its its':List ak)(es:List ag) :
  f92.L2 (0,c,its,s,fr,fl',sta,g0,g1,g2,g3,0,0,0,0,0,0,0,0,l,c',es,its',())=some (.inl (c,its,s,fr,fl',sta,g0,g1,g2,g3,0,0,0,0,0,0,0,0,l,c',l.map cO,es,its',())):=by
 refine OK.eq ?_;unfold f92.L2;rw[mZ (by decide)]
 have f0:=ug hl (n:=0) (by decide)
 dsimp only;rw[af,if_pos (by omega)]
 refine OK.call f0 ?_;rw[show IntKind.wrap .i64 ((0:Int)+1)=((1:Nat):Int) from rfl]
 unfold f92.L1;refine OK.loop (fun j:Nat×List ag=>((j.1:Int),c,its,s,fr,fl',sta,g0,g1,g2,g3,0,0,0,0,0,0,0,0,l,c',j.2,es,its',())) (fun j=>j.1≤32∧j.2.length=32∧∀i,i<32→j.2.getD i eN=if i<j.1 then cO (l.getD i eN) else l.getD i eN) (fun j=>32-j.1) (fun rec j hj ih=>?_) (1,l.set 0 (cO (l.getD 0 eN))) rfl ⟨by dsimp only;omega,by dsimp only;rw[List.length_set];exact hl,fun i hi=>?_⟩ (by dsimp only;omega)
 rotate_left
 ·dsimp only
  rw[bn _ _ _ _ _ (by omega)]
  by_cases e:0=i
  ·subst e;rw[if_pos rfl,if_pos (by omega)]
  ·rw[if_neg e,if_neg (by omega)]
 obtain⟨n,cur⟩:=j;obtain⟨hn,hc,hg⟩:=hj;dsimp only at hn hc hg ih ⊢;rw[af]
 by_cases q:n<32
 ·rw[if_pos (by omega),ug hc q,wr (by omega)]
  simp only[Option.bind_some];refine ih (n+1,cur.set n (cO (cur.getD n eN))) ⟨by dsimp only;omega,by dsimp only;rw[List.length_set];exact hc,fun i hi=>?_⟩ (by dsimp only;omega) _ rfl
  dsimp only;rw[bn _ _ _ _ _ (by omega)]
  by_cases e:n=i
  ·subst e
   rw[if_pos rfl,if_pos (by omega),hg n q,if_neg (Nat.lt_irrefl n)]
  ·rw[if_neg e,hg i hi]
   by_cases z:i<n
   ·rw[if_pos z,if_pos (by omega)]
   ·rw[if_neg z,if_neg (by omega)]
 ·rw[if_neg (by omega)]
  have:cur=l.map cO:=Dp hc (by rw[List.length_map];exact hl) fun i hi=>by
   rw[hg i hi,if_pos (by omega),getD_map cO l eN eN rfl]
  rw[this];exact OK.ret rfl
theorem zX(h1:1≤fl)(h3:fl+1≤3){l:List ag}{its:List ak}(hE:EI (cells s fl) l)(hI:aH (cells s fl) its) :
  ∃f:List ag×List ak,f=iz s (fl+1) (l.map cu) (its.map iH)∧f92 s fr fl sta g0 g1 g2 g3 (cells s fl) l its=some (s,fr,fl+1,sta,g0,g1,g2,g3,cells s fl,its.map iH,cells s (fl+1),f.1,f.2,()):=by
 refine⟨_,rfl,?_⟩;have hl:=hE.len;have hil:=hI.len;have hP:PH (l.map cu):=uX hE (by rw[List.length_map];exact hl) fun i hi=>getD_map cu l eN eN rfl i
 obtain⟨es,ees,hes,hmon⟩:=jI s (fl+1);obtain⟨more,em,hm7,_,_⟩:=je s (fl+1);refine OK.eq ?_;unfold f92 iz;rw[wr (x:=fl+1) (by omega),pE s (fl+1) (by omega) (by omega)]
 simp only[Option.bind_some];rw[←ees,←em,show (floor s (fl+1)).1=cells s (fl+1) from rfl]
 unfold f92.L4;refine OK.loop (fun j:Nat×List ak=>((j.1:Int),cells s fl,j.2,s,fr,fl+1,sta,g0,g1,g2,g3,0,0,0,0,0,0,0,0,cells s (fl+1),l,es,more,())) (fun j=>j.1≤40∧j.2.length=40∧∀i,i<40→j.2.getD i iN=if i<j.1 then iH (its.getD i iN) else its.getD i iN) (fun j=>40-j.1) (fun rec j hj ih=>?_) (0,its) rfl ⟨by dsimp only;omega,hil,fun i hi=>(if_neg (Nat.not_lt_zero _)).symm⟩ (by dsimp only;omega)
 obtain⟨n,cur⟩:=j;obtain⟨hn,hc,hg⟩:=hj;dsimp only at hn hc hg ih ⊢;rw[af]
 by_cases q:n<40
 ·have gn:=hg n q
  rw[if_neg (Nat.lt_irrefl n)]at gn;have eW:(cur.getD n (0,0,0,0)).2.1=(its.getD n iN).2.1:=by rw[←gn]
  have ir:ae (n:Int) cur.length=true:=ao (by omega)
  rw[if_pos (by omega)]
  simp only[ir,cond_true,Int.toNat_natCast];rw[wr (x:=(n:Int)+1) (by omega),eW]
  have step:∀cur':List ak,cur'.length=40→(∀i,i<40→cur'.getD i iN=if i=n then iH (its.getD n iN) else cur.getD i iN)→OK (rec (((n+1:Nat):Int),cells s fl,cur',s,fr,fl+1,sta,g0,g1,g2,g3,0,0,0,0,0,0,0,0,cells s (fl+1),l,es,more,())) _:=fun cur' hl' h'=>ih (n+1,cur') ⟨by dsimp only;omega,hl',fun i hi=>by
   dsimp only;rw[h' i hi]
   by_cases e:i=n
   ·subst e;rw[if_pos rfl,if_pos (by omega)]
   ·rw[if_neg e,hg i hi]
    by_cases z:i<n
    ·rw[if_pos z,if_pos (by omega)]
    ·rw[if_neg z,if_neg (by omega)]⟩ (by dsimp only;omega) _ rfl
  have out:((its.getD n iN).2.1=1∨(its.getD n iN).2.1=4)→OK (rec (((n+1:Nat):Int),cells s fl,cur.set n iN,s,fr,fl+1,sta,g0,g1,g2,g3,0,0,0,0,0,0,0,0,cells s (fl+1),l,es,more,())) _:=fun e=>step (cur.set n iN) (by rw[List.length_set];exact hc) fun i hi=>by
   rw[bn _ _ _ _ _ (by omega)]
   by_cases z:n=i
   ·rw[if_pos z,if_pos z.symm]
    exact(if_pos e).symm
   ·rw[if_neg z,if_neg fun y=>z y.symm]
  by_cases k1:(its.getD n iN).2.1=1
  ·rw[beq_iff_eq.2 k1,cond_true]
   exact out (.inl k1)
  ·rw[beq_eq_false_iff_ne.2 k1,cond_false]
   by_cases k4:(its.getD n iN).2.1=4
   ·rw[beq_iff_eq.2 k4,cond_true]
    exact out (.inr k4)
   ·rw[beq_eq_false_iff_ne.2 k4,cond_false]
    exact step cur hc fun i hi=>by
     by_cases z:i=n
     ·subst z
      rw[if_pos rfl,gn];exact(if_neg fun y=>by rcases y with y | y<;>contradiction).symm
     ·rw[if_neg z]
 ·have:n=40:=by omega
  subst this;rw[if_neg (by omega),Ai s fr sta g0 g1 g2 g3 (fl+1) (cells s fl) (cells s (fl+1)) hl cur more es]
  simp only[Option.bind_some,Sum.elim_inl];have ecur:cur=its.map iH:=tQ hil hc fun i hi=>by rw[hg i hi,if_pos hi]
  subst ecur;clear ih hg;unfold f92.L3;refine OK.loop (fun n:Nat=>((n:Int),cells s fl,its.map iH,s,fr,fl+1,sta,g0,g1,g2,g3,0,0,0,0,0,0,0,0,l,cells s (fl+1),m8 s (fl+1) l n,es,more,())) (fun n=>n≤4) (fun n=>4-n) (fun rec n hn ih=>?_) 0 rfl (Nat.zero_le _) (by decide)
  have R:=r7 s (fl+1) (by omega) h3 hE hP n hn
  have hS:=nM s (fl+1) (by omega) h3 hP n hn
  dsimp only at ih ⊢;rw[af]
  by_cases q4:n<4
  ·have nx:=ih (n+1) (by omega) (by omega) _ rfl
   rw[sD]at nx;obtain⟨hEp,_,_⟩:=rf s (fl+1) (by omega) h3 q4 hS
   generalize m8 s (fl+1) l n=D at *
   have hD:cM D:=⟨R.len.2.2,fun i hi=>by
    by_cases q:kd (l.getD i eN)=1∧st (l.getD i eN)<n
    ·obtain⟨_,b,_⟩:=R.put i (by have:=R.len.2.2;omega) q.1 q.2
     have:=hEp.2 i (by have:=R.len;omega)
     rw[b]at this;exact this
    ·rw[(R.out i (by have:=R.len.2.2;omega) q).2.2]
     exact .inl rfl⟩
   have hDl:=R.len.2.2;unfold den at nx;rw[if_pos (by omega),ga l (by omega),wr (x:=(n:Int)+1) (by omega)]
   simp only[Option.bind_some];rw[af]
   by_cases q1:ai l n<0
   ·rw[if_pos q1]at nx ⊢
    exact nx
   ·obtain⟨r,hr,er,hk,_⟩:=cI hl q1
    rw[if_neg q1,er,Int.toNat_natCast]at nx;rw[if_neg q1,er,ao (by omega),cond_true,Int.toNat_natCast]
    have k:=xp s (fl+1) s fr (fl+1) sta g0 g1 g2 g3 hD (its.map iH) (l.getD r eN);refine OK.call k ?_;rw[decide_eq_true (by simp[aB];omega),cond_true,ao (by omega),cond_true]
    exact nx
  ·have:n=4:=by omega
   subst this;rw[if_neg (by omega)]
   have hd:=BH s (fl+1) (by omega) h3 hE hP
   rw[hd];have k:=sO s (fl+1) s fr (fl+1) sta g0 g1 g2 g3 (cells s (fl+1)) (its:=its.map iH) hS.done (by rw[List.length_map];exact hil) (show more.length≤1000 by omega) hes hmon
   refine OK.call k ?_;exact OK.ret rfl
end
end Go.Proofs.YthdgahpomhnidaaGreat.Tp

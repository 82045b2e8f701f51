import Derived.Test.YthdgahpomhnidaaGreatZ15
namespace Go.Proofs.YthdgahpomhnidaaGreat.Tp
open Go Mx Pc Run Field Gen GenL Fl Wd Ft Ln Nav Mn
set_option linter.unusedVariables false
set_option linter.unusedSimpArgs false
set_option maxHeartbeats 4000000
theorem GI(s:Int)(l:List (List Int)){n i:Nat}(h:i<n)(d:WR):((List.range n).map fun k=>tu (wk s l k)).getD i d=tu (wk s l i):=by
 simp[List.getD_eq_getElem?_getD,h]
section
variable (l:List (List Int)) (i:Nat) (s fr fl sta g0 g1 g2 g3:Int) (c:List Int) (es:List ag) (its:List ak) (ws:List WR)
theorem Ax(hi:i<l.length):f9.L2 (l,(i:Int),0,ws,s,fr,fl,sta,g0,g1,g2,g3,0,0,false,0,0,false,0,0,false,0,0,false,c,es,its,()) =
  some (.inl (l,(i:Int),ws,s,fr,fl,sta,g0,g1,g2,g3,(aO (l.getD i []) 4 0).1,(aO (l.getD i []) 4 0).2.1,(aO (l.getD i []) 4 0).2.2,(aO (l.getD i []) 4 1).1,(aO (l.getD i []) 4 1).2.1,(aO (l.getD i []) 4 1).2.2,(aO (l.getD i []) 4 2).1,(aO (l.getD i []) 4 2).2.1,(aO (l.getD i []) 4 2).2.2,(aO (l.getD i []) 4 3).1,(aO (l.getD i []) 4 3).2.1,(aO (l.getD i []) 4 3).2.2,c,es,its,())):=by
 refine OK.eq ?_;unfold f9.L2;refine OK.loop (fun k:Nat=>(l,(i:Int),(k:Int),ws,s,fr,fl,sta,g0,g1,g2,g3,(aO (l.getD i []) k 0).1,(aO (l.getD i []) k 0).2.1,(aO (l.getD i []) k 0).2.2,(aO (l.getD i []) k 1).1,(aO (l.getD i []) k 1).2.1,(aO (l.getD i []) k 1).2.2,(aO (l.getD i []) k 2).1,(aO (l.getD i []) k 2).2.1,(aO (l.getD i []) k 2).2.2,(aO (l.getD i []) k 3).1,(aO (l.getD i []) k 3).2.1,(aO (l.getD i []) k 3).2.2,c,es,its,())) (fun k=>k≤4) (fun k=>4-k) (fun rec k hk ih=>?_) 0 (by simp only[sc];rfl) (Nat.zero_le _) (by decide)
 have il:ae (i:Int) l.length=true:=ao (by omega)
 dsimp only;rw[af]
 by_cases q:k<4
 ·have nx:=ih (k+1) (by omega) (by omega) _ rfl
  rw[if_pos (by omega)]
  simp only[il,cond_true,Int.toNat_natCast];rw[af]
  by_cases p:k<(l.getD i []).length
  ·have ir:ae (k:Int) (l.getD i []).length=true:=ao (by omega)
   have i4:ae (k:Int) 4=true:=ao (by omega)
   rw[if_pos (by omega)]
   simp only[ir,i4,cond_true];rw[tp _ 3 (by decide) (by decide)]
   simp only[Option.bind_some];rw[tp _ 11 (by decide) (by decide)]
   simp only[Option.bind_some];rw[tp _ 3 (by decide) (by decide)]
   simp only[Option.bind_some];rw[wr (x:=(k:Int)+1) (by omega)]
   simp only[sx p]at nx;have k4:k=0∨k=1∨k=2∨k=3:=by omega
   rcases k4 with rfl | rfl | rfl | rfl<;>exact nx
  ·rw[if_neg (by omega)]
   refine OK.ret ?_;rw[fL (k:=k) (.inl (by omega)) (show 0<4 by decide),fL (k:=k) (.inl (by omega)) (show 1<4 by decide),fL (k:=k) (.inl (by omega)) (show 2<4 by decide),fL (k:=k) (.inl (by omega)) (show 3<4 by decide)]
 ·have:k=4:=by omega
  subst this;rw[if_neg (by omega)]
  exact OK.ret rfl
end
theorem wC(s:Int)(l:List (List Int))(k:Nat)(hk:k≤100):f25 (wk s l k).1 (wk s l k).2.1 (wk s l k).2.2.1 (wk s l k).2.2.2.1 (wk s l k).2.2.2.2.2.2.2.2.1 (wk s l k).2.2.2.2.2.2.2.2.2.1 (wk s l k).2.2.2.2.2.2.2.2.2.2.1 (wk s l k).2.2.2.2.1 (wk s l k).2.2.2.2.2.1 (wk s l k).2.2.2.2.2.2.1 (wk s l k).2.2.2.2.2.2.2.1 (tu (wk s l k)).1 (tu (wk s l k)).2.1 (tu (wk s l k)).2.2.1 (tu (wk s l k)).2.2.2.1 (tu (wk s l k)).2.2.2.2.1 (tu (wk s l k)).2.2.2.2.2.1 (tu (wk s l k)).2.2.2.2.2.2.1 (tu (wk s l k)).2.2.2.2.2.2.2.1 (tu (wk s l k)).2.2.2.2.2.2.2.2.1 (tu (wk s l k)).2.2.2.2.2.2.2.2.2.1 (tu (wk s l k)).2.2.2.2.2.2.2.2.2.2=some (true,()):=by
 have hw:=(gZ s l k (by omega)).1.2.2
 exact wM _ _ _ _ _ _ _ _ _ _ _ (by rw[hw.wo.ei.len];decide) (by rw[hw.wo.it.len];decide)
theorem again(s:Int)(l:List (List Int))(N:Nat)(hN:N≤100)(hl:N≤l.length)(ws:List WR)(le:ws.length=N+1)(gl:ws.getD N (0,0,0,0,[],[],[],0,0,0,0)=tu (wk s l N))(m:Nat)(hm:m≤N) :
  f9.L3 (l,(m:Int),ws,(wk s l m).1,(wk s l m).2.1,(wk s l m).2.2.1,(wk s l m).2.2.2.1,(wk s l m).2.2.2.2.1,(wk s l m).2.2.2.2.2.1,(wk s l m).2.2.2.2.2.2.1,(wk s l m).2.2.2.2.2.2.2.1,(wk s l m).2.2.2.2.2.2.2.2.1,(wk s l m).2.2.2.2.2.2.2.2.2.1,(wk s l m).2.2.2.2.2.2.2.2.2.2.1,())=some (true,()):=by
 refine OK.eq ?_;unfold f9.L3;refine OK.loop (fun n:Nat=>(l,(n:Int),ws,(wk s l n).1,(wk s l n).2.1,(wk s l n).2.2.1,(wk s l n).2.2.2.1,(wk s l n).2.2.2.2.1,(wk s l n).2.2.2.2.2.1,(wk s l n).2.2.2.2.2.2.1,(wk s l n).2.2.2.2.2.2.2.1,(wk s l n).2.2.2.2.2.2.2.2.1,(wk s l n).2.2.2.2.2.2.2.2.2.1,(wk s l n).2.2.2.2.2.2.2.2.2.2.1,())) (fun n=>n≤N) (fun n=>N-n) (fun rec n hn ih=>?_) m rfl hm (by omega)
 dsimp only;rw[af,le,wr (x:=(n:Int)+1) (by omega)]
 by_cases q:n<N
 ·have nx:=ih (n+1) (by omega) (by omega) _ rfl
  obtain⟨w1,w2⟩:=gZ s l n (by omega)
  rw[if_pos (by omega),Ax l n _ _ _ _ _ _ _ _ _ _ _ _ (by omega)]
  simp only[Option.bind_some,Sum.elim_inl];refine OK.call w2 ?_;rw[wr (x:=(n:Int)+1) (by omega)]
  exact nx
 ·have:n=N:=by omega
  subst this;rw[if_neg (by omega),wr (x:=((n+1:Nat):Int)-1) (by omega),ao (by omega),cond_true,show Int.toNat (((n+1:Nat):Int)-1)=n by omega,gl,wC s l n (by omega)]
  exact OK.ret rfl
end Go.Proofs.YthdgahpomhnidaaGreat.Tp
namespace Go.Proofs.YthdgahpomhnidaaGreat.Pure
open Go Mx Pc Run Field Gen GenL Fl Wd Ft Ln Nav Mn Tp
set_option linter.unusedVariables false
set_option linter.unusedSimpArgs false
set_option maxHeartbeats 4000000
theorem TopUndo(a0:Int)(w0:(Lit.int .i64 a0).wf=true)(a1:List (List Int))(w1:Ty.bG (.row (.row (.int .i64))) a1)(z1:a1.length*24≤140737488351232)(a2:Int)(w2:(Lit.int .i64 a2).wf=true):f9 a0 a1 a2=some (true,()):=by
 obtain⟨N,hN⟩:∃n,n=min a1.length 30:=⟨_,rfl⟩
 refine OK.eq ?_;unfold f9;rw[BT];simp only[Option.bind_some,Bool.not_true,cond_false];rw[BQ,←hN];simp only[Option.bind_some];refine OK.call (show f31 64=some (Sum.inr (0,64,())) from rfl) ?_
 simp only[Sum.elim_inr];rw[bne_self_eq_false,cond_false];have le:((List.range (N+1)).map fun k=>tu (wk a0 a1 k)).length=N+1:=by simp
 have gg:∀k,k≤N→((List.range (N+1)).map fun k=>tu (wk a0 a1 k)).getD k (0,0,0,0,[],[],[],0,0,0,0)=tu (wk a0 a1 k):=fun k hk=>GI a0 a1 (by omega) _
 generalize ((List.range (N+1)).map fun k=>tu (wk a0 a1 k))=ws at *
 unfold f9.L4;refine OK.loop (fun i:Nat=>(a1,a2,((i+1:Nat):Int),ws,64,FR a0 a1 i,())) (fun i=>i≤N) (fun i=>N-i) (fun rec i hi ih=>?_) 0 rfl (Nat.zero_le _) (by omega)
 dsimp only;rw[af,le]
 by_cases q:i<N
 ·have nx:=ih (i+1) (by omega) (by omega) _ rfl
  rw[if_pos (by omega),wr (x:=((i+1:Nat):Int)-1) (by omega),ao (by omega),cond_true,ao (by omega),cond_true,show Int.toNat (((i+1:Nat):Int)-1)=i by omega,Int.toNat_natCast,gg i (by omega),gg (i+1) (by omega)]
  refine OK.call (DQ a0 a1 (by omega) (FR a0 a1 i) (by rw[k9];omega)) ?_
  rw[wr (by omega)]
  rw[rz]at nx;exact nx
 ·have:i=N:=by omega
  subst this;have wb:=pa a2 ((i+1:Nat):Int) (by omega)
  rw[if_neg (by omega),tp a2 ((i+1:Nat):Int) (by omega) (by omega)]
  simp only[Option.bind_some];obtain⟨k,hk⟩:∃k:Nat,within a2 ((i+1:Nat):Int)=k:=⟨(within a2 ((i+1:Nat):Int)).toNat,by omega⟩
  rw[hk]at wb ⊢;rw[wr (x:=((i+1:Nat):Int)-1) (by omega),ao (by omega),cond_true,show Int.toNat (((i+1:Nat):Int)-1)=i by omega,gg i (Nat.le_refl _)]
  refine OK.call (E0 a0 a1 i k (by omega) (by omega)) ?_
  dsimp only;rw[bne_self_eq_false,cond_false,wr (x:=((i+1:Nat):Int)-1-(k:Int)) (by omega),ao (by omega),cond_true,show Int.toNat (((i+1:Nat):Int)-1-(k:Int))=i-k by omega,gg (i-k) (by omega),wC a0 a1 (i-k) (by omega)]
  simp only[Option.bind_some,Bool.not_true,cond_false];rw[show ((i+1:Nat):Int)-1-(k:Int)=((i-k:Nat):Int) by omega,again a0 a1 i (by omega) (by omega) ws le (gg i (Nat.le_refl _)) (i-k) (by omega)]
  exact OK.ret rfl
end Go.Proofs.YthdgahpomhnidaaGreat.Pure

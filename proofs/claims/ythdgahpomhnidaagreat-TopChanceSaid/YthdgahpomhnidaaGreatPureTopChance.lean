import Derived.Test.YthdgahpomhnidaaGreatZ14
namespace Go.Proofs.YthdgahpomhnidaaGreat.Tp
open Go Mx Pc Run Field Gen GenL Fl Wd Ft Ln Nav Mn
set_option linter.unusedVariables false
set_option linter.unusedSimpArgs false
set_option maxHeartbeats 4000000
theorem ws_at(s:Int)(l:List (List Int)){n i:Nat}(h:i<n)(d:WR):((List.range n).map fun k=>tu (wk s l k)).getD i d=tu (wk s l i):=by
 simp[List.getD_eq_getElem?_getD,h]
section
variable (l:List (List Int)) (i:Nat) (a s fr fl sta g0 g1 g2 g3:Int) (asks c:List Int) (es:List EntT) (its:List ItT) (ws:List WR)
theorem chance_acts(hi:i<l.length):f8.L1 (a,l,asks,(i:Int),0,ws,s,fr,fl,sta,g0,g1,g2,g3,0,0,false,0,0,false,0,0,false,0,0,false,c,es,its,()) =
  some (.inl (a,l,asks,(i:Int),ws,s,fr,fl,sta,g0,g1,g2,g3,(acts (l.getD i []) 4 0).1,(acts (l.getD i []) 4 0).2.1,(acts (l.getD i []) 4 0).2.2,(acts (l.getD i []) 4 1).1,(acts (l.getD i []) 4 1).2.1,(acts (l.getD i []) 4 1).2.2,(acts (l.getD i []) 4 2).1,(acts (l.getD i []) 4 2).2.1,(acts (l.getD i []) 4 2).2.2,(acts (l.getD i []) 4 3).1,(acts (l.getD i []) 4 3).2.1,(acts (l.getD i []) 4 3).2.2,c,es,its,())):=by
 refine OK.eq ?_;unfold f8.L1;refine OK.loop (fun k:Nat=>(a,l,asks,(i:Int),(k:Int),ws,s,fr,fl,sta,g0,g1,g2,g3,(acts (l.getD i []) k 0).1,(acts (l.getD i []) k 0).2.1,(acts (l.getD i []) k 0).2.2,(acts (l.getD i []) k 1).1,(acts (l.getD i []) k 1).2.1,(acts (l.getD i []) k 1).2.2,(acts (l.getD i []) k 2).1,(acts (l.getD i []) k 2).2.1,(acts (l.getD i []) k 2).2.2,(acts (l.getD i []) k 3).1,(acts (l.getD i []) k 3).2.1,(acts (l.getD i []) k 3).2.2,c,es,its,())) (fun k=>k≤4) (fun k=>4-k) (fun rec k hk ih=>?_) 0 (by simp only[acts_zero];rfl) (Nat.zero_le _) (by decide)
 have il:inRange (i:Int) l.length=true:=inR (by omega)
 dsimp only;rw[bif_dec]
 by_cases q:k<4
 ·have nx:=ih (k+1) (by omega) (by omega) _ rfl
  rw[if_pos (by omega)]
  simp only[il,cond_true,Int.toNat_natCast];rw[bif_dec]
  by_cases p:k<(l.getD i []).length
  ·have ir:inRange (k:Int) (l.getD i []).length=true:=inR (by omega)
   have i4:inRange (k:Int) 4=true:=inR (by omega)
   rw[if_pos (by omega)]
   simp only[ir,i4,cond_true];rw[pw_eq _ 3 (by decide) (by decide)]
   simp only[Option.bind_some];rw[pw_eq _ 11 (by decide) (by decide)]
   simp only[Option.bind_some];rw[pw_eq _ 3 (by decide) (by decide)]
   simp only[Option.bind_some];rw[wr (x:=(k:Int)+1) (by omega)]
   simp only[acts_succ p]at nx;have k4:k=0∨k=1∨k=2∨k=3:=by omega
   rcases k4 with rfl | rfl | rfl | rfl<;>exact nx
  ·rw[if_neg (by omega)]
   refine OK.ret ?_;rw[acts_end (k:=k) (.inl (by omega)) (show 0<4 by decide),acts_end (k:=k) (.inl (by omega)) (show 1<4 by decide),acts_end (k:=k) (.inl (by omega)) (show 2<4 by decide),acts_end (k:=k) (.inl (by omega)) (show 3<4 by decide)]
 ·have:k=4:=by omega
  subst this;rw[if_neg (by omega)]
  exact OK.ret rfl
end
theorem chance_loop(s:Int)(l:List (List Int))(asks:List Int)(ws:List WR)(n0:Nat)(hn:n0=min l.length 30) :
  f8.L2 (s,l,asks,0,ws,(wk s l 0).1,(wk s l 0).2.1,(wk s l 0).2.2.1,(wk s l 0).2.2.2.1,(wk s l 0).2.2.2.2.1,(wk s l 0).2.2.2.2.2.1,(wk s l 0).2.2.2.2.2.2.1,(wk s l 0).2.2.2.2.2.2.2.1,(wk s l 0).2.2.2.2.2.2.2.2.1,(wk s l 0).2.2.2.2.2.2.2.2.2.1,(wk s l 0).2.2.2.2.2.2.2.2.2.2.1,()) =
   some (.inl (s,ws,(wk s l n0).1,(wk s l n0).2.1,(wk s l n0).2.2.1,(wk s l n0).2.2.2.1,(wk s l n0).2.2.2.2.1,(wk s l n0).2.2.2.2.2.1,(wk s l n0).2.2.2.2.2.2.1,(wk s l n0).2.2.2.2.2.2.2.1,(wk s l n0).2.2.2.2.2.2.2.2.1,(wk s l n0).2.2.2.2.2.2.2.2.2.1,(wk s l n0).2.2.2.2.2.2.2.2.2.2.1,())):=by
 refine OK.eq ?_;unfold f8.L2;refine OK.loop (fun n:Nat=>(s,l,asks,(n:Int),ws,(wk s l n).1,(wk s l n).2.1,(wk s l n).2.2.1,(wk s l n).2.2.2.1,(wk s l n).2.2.2.2.1,(wk s l n).2.2.2.2.2.1,(wk s l n).2.2.2.2.2.2.1,(wk s l n).2.2.2.2.2.2.2.1,(wk s l n).2.2.2.2.2.2.2.2.1,(wk s l n).2.2.2.2.2.2.2.2.2.1,(wk s l n).2.2.2.2.2.2.2.2.2.2.1,())) (fun n=>n≤n0) (fun n=>n0-n) (fun rec n hle ih=>?_) 0 rfl (Nat.zero_le _) (by omega)
 obtain⟨w1,w2⟩:=wk_step s l n (by omega)
 dsimp only;rw[bif_dec,bif_dec]
 by_cases q:n<n0
 ·have nx:=ih (n+1) (by omega) (by omega) _ rfl
  rw[if_pos (by omega),if_pos (by omega),chance_acts l n _ _ _ _ _ _ _ _ _ _ _ _ _ _ (by omega)]
  simp only[Option.bind_some,Sum.elim_inl];have go:OK (Option.bind (stepA (wk s l n) (acts (l.getD n []) 4)) fun y=>rec (s,l,asks,IntKind.wrap .i64 ((n:Int)+1),ws,y.1,y.2.1,y.2.2.1,y.2.2.2.1,y.2.2.2.2.1,y.2.2.2.2.2.1,y.2.2.2.2.2.2.1,y.2.2.2.2.2.2.2.1,y.2.2.2.2.2.2.2.2.1,y.2.2.2.2.2.2.2.2.2.1,y.2.2.2.2.2.2.2.2.2.2.1,())) fun b=>b=.inl (s,ws,(wk s l n0).1,(wk s l n0).2.1,(wk s l n0).2.2.1,(wk s l n0).2.2.2.1,(wk s l n0).2.2.2.2.1,(wk s l n0).2.2.2.2.2.1,(wk s l n0).2.2.2.2.2.2.1,(wk s l n0).2.2.2.2.2.2.2.1,(wk s l n0).2.2.2.2.2.2.2.2.1,(wk s l n0).2.2.2.2.2.2.2.2.2.1,(wk s l n0).2.2.2.2.2.2.2.2.2.2.1,()):=by
   refine OK.call w2 ?_;rw[wr (by omega)]
   exact nx
  by_cases p:(n:Int)<(asks.length:Int)
  ·rw[decide_eq_true p,cond_true,inR (by omega),cond_true]
   obtain⟨z1,e1,_⟩:=new_ww (asks.getD (Int.toNat (n:Int)) 0);obtain⟨z2,e2,_⟩:=step_ww 0 0 false 0 0 false 0 0 false 0 0 false (s:=s) (fr:=n) (by omega) w1
   obtain⟨z3,e3,_⟩:=digest_ok (s:=s) (fr:=n) (by omega) w1
   rw[e1];simp only[Option.bind_some];rw[e2];simp only[Option.bind_some];rw[e3];simp only[Option.bind_some,Sum.elim_inl];exact go
  ·rw[decide_eq_false p,cond_false]
   simp only[Option.bind_some,Sum.elim_inl];exact go
 ·have:n=n0:=by omega
  subst this
  by_cases p:n<l.length
  ·rw[if_pos (by omega),if_neg (by omega)]
   exact OK.ret rfl
  ·rw[if_neg (by omega)]
   exact OK.ret rfl
end Go.Proofs.YthdgahpomhnidaaGreat.Tp
namespace Go.Proofs.YthdgahpomhnidaaGreat.Pure
open Go Mx Pc Run Field Gen GenL Fl Wd Ft Ln Nav Mn Tp
set_option linter.unusedVariables false
set_option linter.unusedSimpArgs false
set_option maxHeartbeats 4000000
theorem TopChance(a0:Int)(w0:(Lit.int .i64 a0).wf=true)(a1:List (List Int))(w1:Ty.good (.row (.row (.int .i64))) a1)(z1:a1.length*24≤140737488351232)(a2:List Int)(w2:Ty.good (.row (.int .i64)) a2)(z2:a2.length*8≤140737488351232):f8 a0 a1 a2=some (true,()):=by
 obtain⟨n0,hn⟩:∃n,n=min a1.length 30:=⟨_,rfl⟩
 have lp:=chance_loop a0 a1 a2 ((List.range (n0+1)).map fun k=>tu (wk a0 a1 k)) n0 hn
 have le:((List.range (n0+1)).map fun k=>tu (wk a0 a1 k)).length=n0+1:=by simp
 have gl:=ws_at a0 a1 (show n0<n0+1 by omega) (0,0,0,0,[],[],[],0,0,0,0)
 have g0:=ws_at a0 a1 (show 0<n0+1 by omega) (0,0,0,0,[],[],[],0,0,0,0)
 have sn:∀k,k≤n0→f25 (wk a0 a1 k).1 (wk a0 a1 k).2.1 (wk a0 a1 k).2.2.1 (wk a0 a1 k).2.2.2.1 (wk a0 a1 k).2.2.2.2.2.2.2.2.1 (wk a0 a1 k).2.2.2.2.2.2.2.2.2.1 (wk a0 a1 k).2.2.2.2.2.2.2.2.2.2.1 (wk a0 a1 k).2.2.2.2.1 (wk a0 a1 k).2.2.2.2.2.1 (wk a0 a1 k).2.2.2.2.2.2.1 (wk a0 a1 k).2.2.2.2.2.2.2.1 (tu (wk a0 a1 k)).1 (tu (wk a0 a1 k)).2.1 (tu (wk a0 a1 k)).2.2.1 (tu (wk a0 a1 k)).2.2.2.1 (tu (wk a0 a1 k)).2.2.2.2.1 (tu (wk a0 a1 k)).2.2.2.2.2.1 (tu (wk a0 a1 k)).2.2.2.2.2.2.1 (tu (wk a0 a1 k)).2.2.2.2.2.2.2.1 (tu (wk a0 a1 k)).2.2.2.2.2.2.2.2.1 (tu (wk a0 a1 k)).2.2.2.2.2.2.2.2.2.1 (tu (wk a0 a1 k)).2.2.2.2.2.2.2.2.2.2=some (true,()):=fun k hk=>by
  have hw:=(wk_step a0 a1 k (by omega)).1.2.2
  exact same_eq _ _ _ _ _ _ _ _ _ _ _ (by rw[hw.wo.ei.len];decide) (by rw[hw.wo.it.len];decide)
 refine OK.eq ?_;unfold f8;rw[known_is];simp only[Option.bind_some,Bool.not_true,cond_false];rw[story_is,←hn];simp only[Option.bind_some];refine OK.call (wk_new a0 a1).1 ?_;rw[lp];simp only[Option.bind_some,Sum.elim_inl];generalize ((List.range (n0+1)).map fun k=>tu (wk a0 a1 k))=ws at *
 rw[le,wr (x:=((n0+1:Nat):Int)-1) (by omega),inR (by omega),cond_true,show Int.toNat (((n0+1:Nat):Int)-1)=n0 by omega,gl,sn n0 (Nat.le_refl _)]
 simp only[Option.bind_some,cond_true];rw[rnew_is,(wk_new a0 a1).1];simp only[Option.bind_some];rw[inR (by omega),cond_true,g0,sn 0 (Nat.zero_le _)]
 exact OK.ret rfl
end Go.Proofs.YthdgahpomhnidaaGreat.Pure

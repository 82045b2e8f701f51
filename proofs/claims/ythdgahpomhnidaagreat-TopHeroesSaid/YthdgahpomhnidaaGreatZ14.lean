import Derived.Test.YthdgahpomhnidaaGreatZ13
namespace Go.Proofs.YthdgahpomhnidaaGreat.Tp
open Go Mx Pc Run Field Gen GenL Fl Wd Ft Ln Nav Mn
set_option linter.unusedVariables false
set_option linter.unusedSimpArgs false
set_option maxHeartbeats 4000000
theorem lw_eq(a n:Int)(h:0<n)(hn:n≤1000000000000):f46 a n=some (within a n,()):=by
 have:=within_b a n h;unfold f46 within;simp only[Option.bind_some,bif_dec];rw[if_neg (by omega)]
 split
 ·rw[wr (by omega)];rfl
 ·rfl
def act1(a:Int):Int×Int×Bool:=(within a 3,within (IntKind.wrap .i64 (Int.tdiv a 3)) 11,within (IntKind.wrap .i64 (Int.tdiv a 33)) 3==0)
def acts(row:List Int)(k j:Nat):Int×Int×Bool:=if j<k∧j<row.length then act1 (row.getD j 0) else (0,0,false)
theorem acts_zero(row:List Int)(j:Nat):acts row 0 j=(0,0,false):=if_neg fun h=>absurd h.1 (Nat.not_lt_zero _)
theorem acts_succ{row:List Int}{k:Nat}(h:k<row.length)(j:Nat):acts row (k+1) j=if k=j then act1 (row.getD k 0) else acts row k j:=by
 unfold acts
 by_cases e:k=j
 ·subst e;rw[if_pos ⟨by omega,h⟩,if_pos rfl]
 ·rw[if_neg e]
  by_cases q:j<k∧j<row.length
  ·rw[if_pos q,if_pos ⟨by omega,q.2⟩]
  ·rw[if_neg q,if_neg fun z=>q ⟨by omega,z.2⟩]
theorem acts_end{row:List Int}{k:Nat}(h:row.length≤k∨4≤k){j:Nat}(hj:j<4):acts row k j=acts row 4 j:=by
 unfold acts
 by_cases q:j<k∧j<row.length
 ·rw[if_pos q,if_pos ⟨hj,q.2⟩]
 ·rw[if_neg q,if_neg fun z=>q ⟨by omega,z.2⟩]
abbrev WR:=Int×Int×Int×Int×List Int×List EntT×List ItT×Int×Int×Int×Int
def tu(z:WT):WR:=(z.1,z.2.1,z.2.2.1,z.2.2.2.1,z.2.2.2.2.2.2.2.2.1,z.2.2.2.2.2.2.2.2.2.1,z.2.2.2.2.2.2.2.2.2.2.1,z.2.2.2.2.1,z.2.2.2.2.2.1,z.2.2.2.2.2.2.1,z.2.2.2.2.2.2.2.1)
noncomputable def stepA(z:WT)(A:Nat→Int×Int×Bool):Option WT:=f20 z.1 z.2.1 z.2.2.1 z.2.2.2.1 z.2.2.2.2.2.2.2.2.1 z.2.2.2.2.2.2.2.2.2.1 z.2.2.2.2.2.2.2.2.2.2.1 z.2.2.2.2.1 z.2.2.2.2.2.1 z.2.2.2.2.2.2.1 z.2.2.2.2.2.2.2.1 (A 0).1 (A 0).2.1 (A 0).2.2 (A 1).1 (A 1).2.1 (A 1).2.2 (A 2).1 (A 2).2.1 (A 2).2.2 (A 3).1 (A 3).2.1 (A 3).2.2
noncomputable def wk(s:Int)(l:List (List Int)):Nat→WT
 | 0=>(f19 s).getD (0,0,0,0,0,0,0,0,[],[],[],())
 | k+1=>(stepA (wk s l k) (acts (l.getD k []) 4)).getD (0,0,0,0,0,0,0,0,[],[],[],())
theorem wk_new(s:Int)(l:List (List Int)):f19 s=some (wk s l 0)∧WWt s 0 (wk s l 0):=by
 obtain⟨z,e,h⟩:=new_ww s;have:wk s l 0=z:=by
  show (f19 s).getD _=z;rw[e];rfl
 rw[this];exact⟨e,h.1⟩
theorem wk_step(s:Int)(l:List (List Int)):∀k:Nat,k≤1000→WWt s k (wk s l k)∧stepA (wk s l k) (acts (l.getD k []) 4)=some (wk s l (k+1)):=by
 have one:∀k:Nat,k≤1000→WWt s k (wk s l k)→stepA (wk s l k) (acts (l.getD k []) 4)=some (wk s l (k+1))∧WWt s (k+1:Nat) (wk s l (k+1)):=fun k hk h=>by
  obtain⟨z,e,hz⟩:=step_ww (acts (l.getD k []) 4 0).1 (acts (l.getD k []) 4 0).2.1 (acts (l.getD k []) 4 0).2.2 (acts (l.getD k []) 4 1).1 (acts (l.getD k []) 4 1).2.1 (acts (l.getD k []) 4 1).2.2 (acts (l.getD k []) 4 2).1 (acts (l.getD k []) 4 2).2.1 (acts (l.getD k []) 4 2).2.2 (acts (l.getD k []) 4 3).1 (acts (l.getD k []) 4 3).2.1 (acts (l.getD k []) 4 3).2.2 (s:=s) (fr:=k) (by omega) h
  have e:stepA (wk s l k) (acts (l.getD k []) 4)=some z:=e;have:wk s l (k+1)=z:=by
   show (stepA (wk s l k) (acts (l.getD k []) 4)).getD _=z;rw[e];rfl
  rw[this];exact⟨e,hz⟩
 intro k
 induction k with
 | zero=>exact fun hk=>⟨(wk_new s l).2,(one 0 hk (wk_new s l).2).1⟩
 | succ k ih=>exact fun hk=>⟨(one k (by omega) (ih (by omega)).1).2,(one (k+1) hk (one k (by omega) (ih (by omega)).1).2).1⟩
theorem rstep_at{s:Int}{k:Nat}(hk:k≤1000){z:WT}(h:WWt s k z)(A:Nat→Int×Int×Bool) :
  f47 z.1 z.2.1 z.2.2.1 z.2.2.2.1 z.2.2.2.2.2.2.2.2.1 z.2.2.2.2.2.2.2.2.2.1 z.2.2.2.2.2.2.2.2.2.2.1 z.2.2.2.2.1 z.2.2.2.2.2.1 z.2.2.2.2.2.2.1 z.2.2.2.2.2.2.2.1 (A 0).1 (A 0).2.1 (A 0).2.2 (A 1).1 (A 1).2.1 (A 1).2.2 (A 2).1 (A 2).2.1 (A 2).2.2 (A 3).1 (A 3).2.1 (A 3).2.2=stepA z A:=by
 obtain⟨s',fr',fl,sta,g0,g1,g2,g3,c,l,its,u⟩:=z;obtain⟨e1,e2,hw⟩:=h;dsimp only at e1 e2 hw;subst e1 e2;exact rstep_eq s' k fl g0 g1 g2 g3 _ _ _ _ _ _ _ _ _ _ _ _ sta (by omega) hw
section
variable (l:List (List Int)) (i:Nat) (s fr fl sta g0 g1 g2 g3:Int) (c:List Int) (es:List EntT) (its:List ItT) (out:List WR)
theorem story_acts(hi:i<l.length):f17.L1 (l,(i:Int),0,s,fr,fl,sta,c,es,its,g0,g1,g2,g3,out,0,0,false,0,0,false,0,0,false,0,0,false,()) =
  some (.inl (l,(i:Int),s,fr,fl,sta,c,es,its,g0,g1,g2,g3,out,(acts (l.getD i []) 4 0).1,(acts (l.getD i []) 4 0).2.1,(acts (l.getD i []) 4 0).2.2,(acts (l.getD i []) 4 1).1,(acts (l.getD i []) 4 1).2.1,(acts (l.getD i []) 4 1).2.2,(acts (l.getD i []) 4 2).1,(acts (l.getD i []) 4 2).2.1,(acts (l.getD i []) 4 2).2.2,(acts (l.getD i []) 4 3).1,(acts (l.getD i []) 4 3).2.1,(acts (l.getD i []) 4 3).2.2,())):=by
 refine OK.eq ?_;unfold f17.L1;refine OK.loop (fun k:Nat=>(l,(i:Int),(k:Int),s,fr,fl,sta,c,es,its,g0,g1,g2,g3,out,(acts (l.getD i []) k 0).1,(acts (l.getD i []) k 0).2.1,(acts (l.getD i []) k 0).2.2,(acts (l.getD i []) k 1).1,(acts (l.getD i []) k 1).2.1,(acts (l.getD i []) k 1).2.2,(acts (l.getD i []) k 2).1,(acts (l.getD i []) k 2).2.1,(acts (l.getD i []) k 2).2.2,(acts (l.getD i []) k 3).1,(acts (l.getD i []) k 3).2.1,(acts (l.getD i []) k 3).2.2,())) (fun k=>k≤4) (fun k=>4-k) (fun rec k hk ih=>?_) 0 (by simp only[acts_zero];rfl) (Nat.zero_le _) (by decide)
 have il:inRange (i:Int) l.length=true:=inR (by omega)
 dsimp only;rw[bif_dec]
 by_cases q:k<4
 ·have nx:=ih (k+1) (by omega) (by omega) _ rfl
  rw[if_pos (by omega)]
  simp only[il,cond_true,Int.toNat_natCast];rw[bif_dec]
  by_cases p:k<(l.getD i []).length
  ·have ir:inRange (k:Int) (l.getD i []).length=true:=inR (by omega)
   have i4:inRange (k:Int) 4=true:=inR (by omega)
   rw[if_pos (by omega)]
   simp only[ir,i4,cond_true];rw[lw_eq _ 3 (by decide) (by decide)]
   simp only[Option.bind_some];rw[lw_eq _ 11 (by decide) (by decide)]
   simp only[Option.bind_some];rw[lw_eq _ 3 (by decide) (by decide)]
   simp only[Option.bind_some];rw[wr (x:=(k:Int)+1) (by omega)]
   simp only[acts_succ p]at nx;have k4:k=0∨k=1∨k=2∨k=3:=by omega
   rcases k4 with rfl | rfl | rfl | rfl<;>exact nx
  ·rw[if_neg (by omega)]
   refine OK.ret ?_;rw[acts_end (k:=k) (.inl (by omega)) (show 0<4 by decide),acts_end (k:=k) (.inl (by omega)) (show 1<4 by decide),acts_end (k:=k) (.inl (by omega)) (show 2<4 by decide),acts_end (k:=k) (.inl (by omega)) (show 3<4 by decide)]
 ·have:k=4:=by omega
  subst this;rw[if_neg (by omega)]
  exact OK.ret rfl
end
theorem map_succ(s:Int)(l:List (List Int))(n:Nat):(List.range (n+1)).map (fun k=>tu (wk s l k))=(List.range n).map (fun k=>tu (wk s l k))++[tu (wk s l n)]:=by
 rw[List.range_succ,List.map_append];rfl
theorem story_is(s:Int)(l:List (List Int)):f17 s l=some ((List.range (min l.length 30+1)).map (fun k=>tu (wk s l k)),()):=by
 refine OK.eq ?_;obtain⟨n1,n2⟩:=wk_new s l;unfold f17;rw[rnew_is,n1];simp only[Option.bind_some];refine OK.callR (R:=fun y=>y=Sum.inl ((List.range (min l.length 30+1)).map (fun k=>tu (wk s l k)),())) ?_ ?_
 ·unfold f17.L2
  refine OK.loop (fun n:Nat=>(l,(n:Int),(tu (wk s l n)).1,(tu (wk s l n)).2.1,(tu (wk s l n)).2.2.1,(tu (wk s l n)).2.2.2.1,(tu (wk s l n)).2.2.2.2.1,(tu (wk s l n)).2.2.2.2.2.1,(tu (wk s l n)).2.2.2.2.2.2.1,(tu (wk s l n)).2.2.2.2.2.2.2.1,(tu (wk s l n)).2.2.2.2.2.2.2.2.1,(tu (wk s l n)).2.2.2.2.2.2.2.2.2.1,(tu (wk s l n)).2.2.2.2.2.2.2.2.2.2,(List.range (n+1)).map (fun k=>tu (wk s l k)),())) (fun n=>n≤min l.length 30) (fun n=>30-n) (fun rec n hn ih=>?_) 0 rfl (Nat.zero_le _) (by decide)
  obtain⟨w1,w2⟩:=wk_step s l n (by omega)
  dsimp only;rw[bif_dec,bif_dec]
  by_cases q:n<min l.length 30
  ·have nx:=ih (n+1) (by omega) (by omega) _ rfl
   rw[map_succ s l (n+1)]at nx;rw[if_pos (by omega),if_pos (by omega),story_acts l n _ _ _ _ _ _ _ _ _ _ _ _ (by omega)]
   simp only[Option.bind_some,Sum.elim_inl];have rs:=rstep_at (by omega) w1 (acts (l.getD n []) 4)
   rw[w2]at rs;refine OK.call rs ?_;rw[decide_eq_true (by rw[List.length_map,List.length_range];simp[limit];omega),cond_true,wr (by omega)]
   exact nx
  ·have e:OK (some (Sum.inl ((List.range (n+1)).map (fun k=>tu (wk s l k)),())):Option ((List WR×Unit)⊕(List WR×Unit))) fun y=>y=Sum.inl ((List.range (min l.length 30+1)).map (fun k=>tu (wk s l k)),()):=by
    rw[show n=min l.length 30 by omega]
    exact OK.ret rfl
   by_cases p:n<l.length
   ·rw[if_pos (by omega),if_neg (by omega)]
    exact e
   ·rw[if_neg (by omega)]
    exact e
 ·rintro _ rfl
  exact OK.ret rfl
end Go.Proofs.YthdgahpomhnidaaGreat.Tp

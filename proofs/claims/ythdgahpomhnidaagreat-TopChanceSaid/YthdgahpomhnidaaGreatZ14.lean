import Derived.Test.YthdgahpomhnidaaGreatZ13
set_option linter.unusedSimpArgs false
set_option linter.unusedVariables false
namespace Go.Proofs.YthdgahpomhnidaaGreat.Tp
open Go Mx Pc Run Field Gen GenL Fl Wd Ft Ln Nav Mn
set_option maxHeartbeats 4000000
theorem lw_eq(a n:Int)(h:0<n)(hn:n≤1000000000000):f46 a n=some (within a n,()):=by
 have:=within_b a n h;unfold f46 within;simp only[Option.bind_some,bif_dec];rw[if_neg (by omega)]
 split
 ·rw[wr (by omega)];rfl
 ·rfl
def act1(a:Int):Int×Int×Bool:=(within a 3,within (IntKind.wrap .i64 (Int.tdiv a 3)) 11,within (IntKind.wrap .i64 (Int.tdiv a 33)) 3==0)
def acts(row:List Int)(k j:Nat):Int×Int×Bool:=if j<k∧j<row.length then act1 (row.getD j 0) else (0,0,false)
theorem acts_zero(row:List Int)(j:Nat):acts row 0 j=(0,0,false):=if_neg fun h=>absurd h.1 (Nat.not_lt_zero _)
theorem acts_succ{row:List Int}{k:Nat}(h:k<row.length)(j:Nat):acts row (k+1) j=if k=j then act1 (row.getD k 0) else acts row k j:=by
 unfold acts
 by_cases e:k=j
 ·subst e;rw[if_pos ⟨by omega,h⟩,if_pos rfl]
 ·rw[if_neg e]
  by_cases q:j<k∧j<row.length
  ·rw[if_pos q,if_pos ⟨by omega,q.2⟩]
  ·rw[if_neg q,if_neg fun z=>q ⟨by omega,z.2⟩]
theorem acts_end{row:List Int}{k:Nat}(h:row.length≤k∨4≤k){j:Nat}(hj:j<4):acts row k j=acts row 4 j:=by
 unfold acts
 by_cases q:j<k∧j<row.length
 ·rw[if_pos q,if_pos ⟨hj,q.2⟩]
 ·rw[if_neg q,if_neg fun z=>q ⟨by omega,z.2⟩]
abbrev WR:=Int×Int×Int×Int×List Int×List EntT×List ItT×Int×Int×Int×Int
def tu(z:WT):WR:=(z.1,z.2.1,z.2.2.1,z.2.2.2.1,z.2.2.2.2.2.2.2.2.1,z.2.2.2.2.2.2.2.2.2.1,z.2.2.2.2.2.2.2.2.2.2.1,z.2.2.2.2.1,z.2.2.2.2.2.1,z.2.2.2.2.2.2.1,z.2.2.2.2.2.2.2.1)
noncomputable def stepA(z:WT)(A:Nat→Int×Int×Bool):Option WT:=f20 z.1 z.2.1 z.2.2.1 z.2.2.2.1 z.2.2.2.2.2.2.2.2.1 z.2.2.2.2.2.2.2.2.2.1 z.2.2.2.2.2.2.2.2.2.2.1 z.2.2.2.2.1 z.2.2.2.2.2.1 z.2.2.2.2.2.2.1 z.2.2.2.2.2.2.2.1 (A 0).1 (A 0).2.1 (A 0).2.2 (A 1).1 (A 1).2.1 (A 1).2.2 (A 2).1 (A 2).2.1 (A 2).2.2 (A 3).1 (A 3).2.1 (A 3).2.2
noncomputable def wk(s:Int)(l:List (List Int)):Nat→WT
 | 0=>(f19 s).getD (0,0,0,0,0,0,0,0,[],[],[],())
 | k+1=>(stepA (wk s l k) (acts (l.getD k []) 4)).getD (0,0,0,0,0,0,0,0,[],[],[],())
theorem wk_new(s:Int)(l:List (List Int)):f19 s=some (wk s l 0)∧WWt s 0 (wk s l 0):=by
 obtain⟨z,e,h⟩:=new_ww s;have:wk s l 0=z:=by
  show (f19 s).getD _=z;rw[e];rfl
 rw[this];exact⟨e,h.1⟩
theorem wk_step(s:Int)(l:List (List Int)):∀k:Nat,k≤1000→WWt s k (wk s l k)∧stepA (wk s l k) (acts (l.getD k []) 4)=some (wk s l (k+1)):=by
 have one:∀k:Nat,k≤1000→WWt s k (wk s l k)→stepA (wk s l k) (acts (l.getD k []) 4)=some (wk s l (k+1))∧WWt s (k+1:Nat) (wk s l (k+1)):=fun k hk h=>by
  obtain⟨z,e,hz⟩:=step_ww (acts (l.getD k []) 4 0).1 (acts (l.getD k []) 4 0).2.1 (acts (l.getD k []) 4 0).2.2 (acts (l.getD k []) 4 1).1 (acts (l.getD k []) 4 1).2.1 (acts (l.getD k []) 4 1).2.2 (acts (l.getD k []) 4 2).1 (acts (l.getD k []) 4 2).2.1 (acts (l.getD k []) 4 2).2.2 (acts (l.getD k []) 4 3).1 (acts (l.getD k []) 4 3).2.1 (acts (l.getD k []) 4 3).2.2 (s:=s) (fr:=k) (by omega) h
  have e:stepA (wk s l k) (acts (l.getD k []) 4)=some z:=e;have:wk s l (k+1)=z:=by
   show (stepA (wk s l k) (acts (l.getD k []) 4)).getD _=z;rw[e];rfl
  rw[this];exact⟨e,hz⟩
 intro k
 induction k with
 | zero=>exact fun hk=>⟨(wk_new s l).2,(one 0 hk (wk_new s l).2).1⟩
 | succ k ih=>exact fun hk=>⟨(one k (by omega) (ih (by omega)).1).2,(one (k+1) hk (one k (by omega) (ih (by omega)).1).2).1⟩
theorem rstep_at{s:Int}{k:Nat}(hk:k≤1000){z:WT}(h:WWt s k z)(A:Nat→Int×Int×Bool) :
  f47 z.1 z.2.1 z.2.2.1 z.2.2.2.1 z.2.2.2.2.2.2.2.2.1 z.2.2.2.2.2.2.2.2.2.1 z.2.2.2.2.2.2.2.2.2.2.1 z.2.2.2.2.1 z.2.2.2.2.2.1 z.2.2.2.2.2.2.1 z.2.2.2.2.2.2.2.1 (A 0).1 (A 0).2.1 (A 0).2.2 (A 1).1 (A 1).2.1 (A 1).2.2 (A 2).1 (A 2).2.1 (A 2).2.2 (A 3).1 (A 3).2.1 (A 3).2.2=stepA z A:=by
 obtain⟨s',fr',fl,sta,g0,g1,g2,g3,c,l,its,u⟩:=z;obtain⟨e1,e2,hw⟩:=h;dsimp only at e1 e2 hw;subst e1 e2;exact rstep_eq s' k fl g0 g1 g2 g3 _ _ _ _ _ _ _ _ _ _ _ _ sta (by omega) hw
section
variable (l:List (List Int)) (i:Nat) (s fr fl sta g0 g1 g2 g3:Int) (c:List Int) (es:List EntT) (its:List ItT) (out:List WR)
theorem story_acts(hi:i<l.length):f17.L1 (l,(i:Int),0,s,fr,fl,sta,c,es,its,g0,g1,g2,g3,out,0,0,false,0,0,false,0,0,false,0,0,false,()) =
  some (.inl (l,(i:Int),s,fr,fl,sta,c,es,its,g0,g1,g2,g3,out,(acts (l.getD i []) 4 0).1,(acts (l.getD i []) 4 0).2.1,(acts (l.getD i []) 4 0).2.2,(acts (l.getD i []) 4 1).1,(acts (l.getD i []) 4 1).2.1,(acts (l.getD i []) 4 1).2.2,(acts (l.getD i []) 4 2).1,(acts (l.getD i []) 4 2).2.1,(acts (l.getD i []) 4 2).2.2,(acts (l.getD i []) 4 3).1,(acts (l.getD i []) 4 3).2.1,(acts (l.getD i []) 4 3).2.2,())):=by
 refine OK.eq ?_;unfold f17.L1;refine OK.loop (fun k:Nat=>(l,(i:Int),(k:Int),s,fr,fl,sta,c,es,its,g0,g1,g2,g3,out,(acts (l.getD i []) k 0).1,(acts (l.getD i []) k 0).2.1,(acts (l.getD i []) k 0).2.2,(acts (l.getD i []) k 1).1,(acts (l.getD i []) k 1).2.1,(acts (l.getD i []) k 1).2.2,(acts (l.getD i []) k 2).1,(acts (l.getD i []) k 2).2.1,(acts (l.getD i []) k 2).2.2,(acts (l.getD i []) k 3).1,(acts (l.getD i []) k 3).2.1,(acts (l.getD i []) k 3).2.2,())) (fun k=>k≤4) (fun k=>4-k) (fun rec k hk ih=>?_) 0 (by simp only[acts_zero];rfl) (Nat.zero_le _) (by decide)
 have il:inRange (i:Int) l.length=true:=inR (by omega)
 dsimp only;rw[bif_dec]
 by_cases q:k<4
 ·have nx:=ih (k+1) (by omega) (by omega) _ rfl
  rw[if_pos (by omega)]
  simp only[il,cond_true,Int.toNat_natCast];rw[bif_dec]
  by_cases p:k<(l.getD i []).length
  ·have ir:inRange (k:Int) (l.getD i []).length=true:=inR (by omega)
   have i4:inRange (k:Int) 4=true:=inR (by omega)
   rw[if_pos (by omega)]
   simp only[ir,i4,cond_true];rw[lw_eq _ 3 (by decide) (by decide)]
   simp only[Option.bind_some];rw[lw_eq _ 11 (by decide) (by decide)]
   simp only[Option.bind_some];rw[lw_eq _ 3 (by decide) (by decide)]
   simp only[Option.bind_some];rw[wr (x:=(k:Int)+1) (by omega)]
   simp only[acts_succ p]at nx;have k4:k=0∨k=1∨k=2∨k=3:=by omega
   rcases k4 with rfl | rfl | rfl | rfl<;>exact nx
  ·rw[if_neg (by omega)]
   refine OK.ret ?_;rw[acts_end (k:=k) (.inl (by omega)) (show 0<4 by decide),acts_end (k:=k) (.inl (by omega)) (show 1<4 by decide),acts_end (k:=k) (.inl (by omega)) (show 2<4 by decide),acts_end (k:=k) (.inl (by omega)) (show 3<4 by decide)]
 ·have:k=4:=by omega
  subst this;rw[if_neg (by omega)]
  exact OK.ret rfl
end
theorem map_succ(s:Int)(l:List (List Int))(n:Nat):(List.range (n+1)).map (fun k=>tu (wk s l k))=(List.range n).map (fun k=>tu (wk s l k))++[tu (wk s l n)]:=by
 rw[List.range_succ,List.map_append];rfl
theorem story_is(s:Int)(l:List (List Int)):f17 s l=some ((List.range (min l.length 30+1)).map (fun k=>tu (wk s l k)),()):=by
 refine OK.eq ?_;obtain⟨n1,n2⟩:=wk_new s l;unfold f17;rw[rnew_is,n1];simp only[Option.bind_some];refine OK.callR (R:=fun y=>y=Sum.inl ((List.range (min l.length 30+1)).map (fun k=>tu (wk s l k)),())) ?_ ?_
 ·unfold f17.L2
  refine OK.loop (fun n:Nat=>(l,(n:Int),(tu (wk s l n)).1,(tu (wk s l n)).2.1,(tu (wk s l n)).2.2.1,(tu (wk s l n)).2.2.2.1,(tu (wk s l n)).2.2.2.2.1,(tu (wk s l n)).2.2.2.2.2.1,(tu (wk s l n)).2.2.2.2.2.2.1,(tu (wk s l n)).2.2.2.2.2.2.2.1,(tu (wk s l n)).2.2.2.2.2.2.2.2.1,(tu (wk s l n)).2.2.2.2.2.2.2.2.2.1,(tu (wk s l n)).2.2.2.2.2.2.2.2.2.2,(List.range (n+1)).map (fun k=>tu (wk s l k)),())) (fun n=>n≤min l.length 30) (fun n=>30-n) (fun rec n hn ih=>?_) 0 rfl (Nat.zero_le _) (by decide)
  obtain⟨w1,w2⟩:=wk_step s l n (by omega)
  dsimp only;rw[bif_dec,bif_dec]
  by_cases q:n<min l.length 30
  ·have nx:=ih (n+1) (by omega) (by omega) _ rfl
   rw[map_succ s l (n+1)]at nx;rw[if_pos (by omega),if_pos (by omega),story_acts l n _ _ _ _ _ _ _ _ _ _ _ _ (by omega)]
   simp only[Option.bind_some,Sum.elim_inl];have rs:=rstep_at (by omega) w1 (acts (l.getD n []) 4)
   rw[w2]at rs;refine OK.call rs ?_;rw[decide_eq_true (by rw[List.length_map,List.length_range];simp[limit];omega),cond_true,wr (by omega)]
   exact nx
  ·have e:OK (some (Sum.inl ((List.range (n+1)).map (fun k=>tu (wk s l k)),())):Option ((List WR×Unit)⊕(List WR×Unit))) fun y=>y=Sum.inl ((List.range (min l.length 30+1)).map (fun k=>tu (wk s l k)),()):=by
    rw[show n=min l.length 30 by omega]
    exact OK.ret rfl
   by_cases p:n<l.length
   ·rw[if_pos (by omega),if_neg (by omega)]
    exact e
   ·rw[if_neg (by omega)]
    exact e
 ·rintro _ rfl
  exact OK.ret rfl
end Go.Proofs.YthdgahpomhnidaaGreat.Tp
namespace Go.Proofs.YthdgahpomhnidaaGreat.Tp
open Go Mx Pc Run Field Gen GenL Fl Wd Ft Ln Nav Mn
set_option maxHeartbeats 2000000
theorem room1{n:Nat}(h:n≤1000000):decide (n+1≤limit 1)=true:=decide_eq_true (by simp[limit];omega)
theorem len1{b:List Int}{x:Int}{n:Nat}(h:b.length+1=n):(b++[x]).length=n:=by rw[List.length_append];exact h
theorem num0_ok(v:Int):OK (f117 8 v) fun y=>y.1.length=8:=by
 unfold f117 f117.L1;refine OK.loop (fun j:Nat×List Int=>(v,(j.1:Int)-1,j.2,())) (fun j=>j.1≤8∧j.2.length+j.1=8) (fun j=>j.1) (fun rec j hj ih=>?_) (8,[]) (by rw[wr (by decide)];rfl) ⟨by decide,rfl⟩ (by decide)
 obtain⟨m,b⟩:=j;obtain⟨h1,h2⟩:=hj;dsimp only at h1 h2 ih ⊢;rw[bif_dec]
 by_cases q:m=0
 ·rw[if_neg (by omega)]
  exact OK.ret (by dsimp only;omega)
 ·rw[if_pos (by omega),wr (x:=8*((m:Int)-1)) (by omega),bif_dec,if_neg (by omega),room1 (by omega),cond_true,wr (x:=(m:Int)-1-1) (by omega)]
  have nx:=fun(b1:List Int) (e:b1.length=b.length+1)=>ih (m-1,b1) ⟨(by dsimp only;omega),(by dsimp only;omega)⟩ (by dsimp only;omega) (v,(m:Int)-1-1,b1,()) (by rw[show (m:Int)-1-1=((m-1:Nat):Int)-1 by omega])
  exact nx _ (len1 rfl)
theorem num_ok(n:Nat)(hn:n≤8)(v:Int)(b:List Int)(hb:b.length≤100000):OK (f117_1 (n:Int) v b) fun y=>y.1.length=b.length+n:=by
 unfold f117_1 f117_1.L1;refine OK.loop (fun j:Nat×List Int=>(v,(j.1:Int)-1,j.2,())) (fun j=>j.1≤8∧j.2.length+j.1=b.length+n) (fun j=>j.1) (fun rec j hj ih=>?_) (n,b) (by rw[wr (by omega)]) ⟨hn,rfl⟩ (by dsimp only;omega)
 obtain⟨m,b'⟩:=j;obtain⟨h1,h2⟩:=hj;dsimp only at h1 h2 ih ⊢;rw[bif_dec]
 by_cases q:m=0
 ·rw[if_neg (by omega)]
  exact OK.ret (by dsimp only;omega)
 ·rw[if_pos (by omega),wr (x:=8*((m:Int)-1)) (by omega),bif_dec,if_neg (by omega),room1 (by omega),cond_true,wr (x:=(m:Int)-1-1) (by omega)]
  have nx:=fun(b1:List Int) (e:b1.length=b'.length+1)=>ih (m-1,b1) ⟨(by dsimp only;omega),(by dsimp only;omega)⟩ (by dsimp only;omega) (v,(m:Int)-1-1,b1,()) (by rw[show (m:Int)-1-1=((m-1:Nat):Int)-1 by omega])
  exact nx _ (len1 rfl)
theorem small_ok(b l:List Int)(hb:b.length≤100000)(hl:l.length≤100):OK (f118 b l) fun y=>y.2.1.length=b.length+l.length:=by
 unfold f118 f118.L1;refine OK.loop (fun j:Nat×List Int=>((l.length:Int),(j.1:Int),l,j.2,())) (fun j=>j.1≤l.length∧j.2.length=b.length+j.1) (fun j=>l.length-j.1) (fun rec j hj ih=>?_) (0,b) rfl ⟨Nat.zero_le _,rfl⟩ (by dsimp only;omega)
 obtain⟨m,b'⟩:=j;obtain⟨h1,h2⟩:=hj;dsimp only at h1 h2 ih ⊢;rw[bif_dec]
 by_cases q:m<l.length
 ·rw[if_pos (by omega),inR (by omega),cond_true,room1 (by omega),cond_true,wr (x:=(m:Int)+1) (by omega)]
  have nx:=fun(b1:List Int) (e:b1.length=b'.length+1)=>ih (m+1,b1) ⟨(by dsimp only;omega),(by dsimp only;omega)⟩ (by dsimp only;omega) _ rfl
  exact nx _ (len1 rfl)
 ·rw[if_neg (by omega)]
  exact OK.ret (by dsimp only;omega)
section
variable (s fr fl sta g0 g1 g2 g3:Int) (c:List Int) (es:List EntT) (its:List ItT)
theorem enc_items(hi:its.length=40)(b:List Int)(hb:b.length≤10000):OK (f63.L1 (its,((its.length:Nat):Int),0,b,())) fun y=>y.1=0∧y.2.1.length≤20000:=by
 unfold f63.L1;refine OK.loop (fun j:Nat×List Int=>(its,((its.length:Nat):Int),(j.1:Int),j.2,())) (fun j=>j.1≤40∧j.2.length=b.length+4*j.1) (fun j=>40-j.1) (fun rec j hj ih=>?_) (0,b) rfl ⟨Nat.zero_le _,rfl⟩ (by dsimp only;omega)
 obtain⟨m,b'⟩:=j;obtain⟨h1,h2⟩:=hj;dsimp only at h1 h2 ih ⊢;rw[bif_dec]
 by_cases q:m<40
 ·rw[if_pos (by omega),inR (by omega),cond_true]
  refine OK.callR (small_ok b' _ (by omega) (by dsimp only[List.length];omega)) fun y hy=>?_
  rw[wr (x:=(m:Int)+1) (by omega)]
  exact ih (m+1,y.2.1) ⟨by dsimp only;omega,by rw[hy];dsimp only[List.length];omega⟩ (by dsimp only;omega) _ rfl
 ·rw[if_neg (by omega)]
  exact OK.ret ⟨rfl,by dsimp only;omega⟩
theorem enc_ents(he:es.length=32)(hi:its.length=40)(b:List Int)(hb:b.length≤1000):OK (f63.L2 (es,((es.length:Nat):Int),0,s,fr,fl,sta,c,es,its,g0,g1,g2,g3,b,())) fun y=>y.1=0∧y.2.1.length≤20000:=by
 unfold f63.L2;refine OK.loop (fun j:Nat×List Int=>(es,((es.length:Nat):Int),(j.1:Int),s,fr,fl,sta,c,es,its,g0,g1,g2,g3,j.2,())) (fun j=>j.1≤32∧j.2.length=b.length+11*j.1) (fun j=>32-j.1) (fun rec j hj ih=>?_) (0,b) rfl ⟨Nat.zero_le _,rfl⟩ (by dsimp only;omega)
 obtain⟨m,b'⟩:=j;obtain⟨h1,h2⟩:=hj;dsimp only at h1 h2 ih ⊢;rw[bif_dec]
 by_cases q:m<32
 ·rw[if_pos (by omega),inR (by omega),cond_true]
  refine OK.callR (small_ok b' _ (by omega) (by dsimp only[List.length];omega)) fun y hy=>?_
  rw[wr (x:=(m:Int)+1) (by omega)]
  exact ih (m+1,y.2.1) ⟨by dsimp only;omega,by rw[hy];dsimp only[List.length];omega⟩ (by dsimp only;omega) _ rfl
 ·rw[if_neg (by omega)]
  exact enc_items its hi b' (by omega)
theorem enc_gold(hc:c.length=384)(he:es.length=32)(hi:its.length=40)(b:List Int)(hb:b.length≤100):OK (f63.L3 (g0,g1,g2,g3,0,s,fr,fl,sta,c,es,its,g0,g1,g2,g3,b,())) fun y=>y.1=0∧y.2.1.length≤20000:=by
 unfold f63.L3;refine OK.loop (fun j:Nat×List Int=>(g0,g1,g2,g3,(j.1:Int),s,fr,fl,sta,c,es,its,g0,g1,g2,g3,j.2,())) (fun j=>j.1≤4∧j.2.length=b.length+2*j.1) (fun j=>4-j.1) (fun rec j hj ih=>?_) (0,b) rfl ⟨Nat.zero_le _,rfl⟩ (by dsimp only;omega)
 obtain⟨m,b'⟩:=j;obtain⟨h1,h2⟩:=hj;dsimp only at h1 h2 ih ⊢;rw[bif_dec]
 by_cases q:m<4
 ·rw[if_pos (by omega),inR (by omega),cond_true]
  refine OK.callR (num_ok 2 (by decide) _ b' (by omega)) fun y hy=>?_
  rw[wr (x:=(m:Int)+1) (by omega)]
  exact ih (m+1,y.1) ⟨by dsimp only;omega,by rw[hy];dsimp only;omega⟩ (by dsimp only;omega) _ rfl
 ·rw[if_neg (by omega),decide_eq_true (by rw[hc];simp[limit];omega),cond_true]
  exact enc_ents s fr fl sta g0 g1 g2 g3 c es its he hi (b'++c) (by rw[List.length_append,hc];omega)
end
theorem digest_ok{s fr:Int}(hf:0≤fr∧fr≤100000){z:WT}(h:WWt s fr z):OK (f29 z.1 z.2.1 z.2.2.1 z.2.2.2.1 z.2.2.2.2.2.2.2.2.1 z.2.2.2.2.2.2.2.2.2.1 z.2.2.2.2.2.2.2.2.2.2.1 z.2.2.2.2.1 z.2.2.2.2.2.1 z.2.2.2.2.2.2.1 z.2.2.2.2.2.2.2.1) fun _=>True:=by
 have hk:=check_ww hf h;have hw:=h.2.2;have hcl:z.2.2.2.2.2.2.2.2.1.length=384:=by rw[hw.hc];exact cells_len _ _
 have hel:=hw.wo.ei.len;have hil:z.2.2.2.2.2.2.2.2.2.2.1.length=40:=hw.wo.it.len;unfold f29;have E:OK (f63 z.1 z.2.1 z.2.2.1 z.2.2.2.1 z.2.2.2.2.2.2.2.2.1 z.2.2.2.2.2.2.2.2.2.1 z.2.2.2.2.2.2.2.2.2.2.1 z.2.2.2.2.1 z.2.2.2.2.2.1 z.2.2.2.2.2.2.1 z.2.2.2.2.2.2.2.1) fun y=>y.1=0∧y.2.1.length≤20000:=by
  unfold f63;refine OK.call hk ?_;rw[bne_self_eq_false,cond_false];refine OK.callR (num0_ok _) fun y1 h1=>?_
  refine OK.callR (num_ok 4 (by decide) _ y1.1 (by omega)) fun y2 h2=>?_
  refine OK.callR (small_ok y2.1 _ (by omega) (by dsimp only[List.length];omega)) fun y3 h3=>?_
  exact enc_gold _ _ _ _ _ _ _ _ _ _ _ hcl hel hil y3.2.1 (by rw[h3];dsimp only[List.length];omega)
 refine OK.callR E fun y hy=>?_
 obtain⟨y0,b,u⟩:=y;obtain⟨rfl,hb⟩:=hy;dsimp only at hb ⊢;rw[bne_self_eq_false,cond_false];unfold f29.L1;refine OK.loop (fun j:Nat×Int=>(j.2,((b.length:Nat):Int),(j.1:Int),b,())) (fun j=>j.1≤b.length) (fun j=>b.length-j.1) (fun rec j hj ih=>?_) (0,14695981039346656037) rfl (Nat.zero_le _) (by dsimp only;omega)
 obtain⟨m,x⟩:=j;dsimp only at hj ih ⊢;rw[bif_dec]
 by_cases q:m<b.length
 ·rw[if_pos (by omega),inR (by omega),cond_true,wr (x:=(m:Int)+1) (by omega)]
  exact ih (m+1,_) (by dsimp only;omega) (by dsimp only;omega) _ rfl
 ·rw[if_neg (by omega)]
  exact OK.ret trivial
end Go.Proofs.YthdgahpomhnidaaGreat.Tp

import Derived.Test.YthdgahpomhnidaaGreatZ12
set_option linter.unusedSimpArgs false
set_option linter.unusedVariables false
namespace Go.Proofs.YthdgahpomhnidaaGreat.Fl
open Go Mx Pc Run Field Gen GenL
def wL(n:Nat):Prop:=1≤n%24∧n%24≤22∧1≤n/24∧n/24≤14
structure HI (c:List Int) (D:List Nat):Prop where
 len:c.length=384
 val:∀n,0≤c.getD n 0∧c.getD n 0≤2
 wV:∀n,c.getD n 0≠0→wL n
 dc:∀n,c.getD n 0=2→n∈D
theorem HI.blank:HI (List.replicate 384 0) []:=by
 have gd:∀i,(List.replicate 384 (0:Int)).getD i 0=0:=fun i=>by
  rw[List.getD_eq_getElem?_getD,List.getElem?_replicate];split<;>rfl
 exact⟨List.length_replicate,fun n=>by rw[gd];decide,fun n h=>absurd (gd n) h,fun n h=>by rw[gd]at h;cases h⟩
theorem uD{c:List Int}(h:c.length=384){n:Nat}(hn:¬n<384):c.getD n 0=0:=by
 rw[List.getD_eq_getElem?_getD,List.getElem?_eq_none (by omega)];rfl
theorem qZ(c:List Int)(hc:c.length=384)(x y w h:Int)(n:Nat)(hyh:y+h≤16):(dP c x y w h).getD n 0=if bh x y w h n then 1 else c.getD n 0:=by
 by_cases hn:n<384
 ·exact jo c x y w h n hn
 ·rw[uD (gU c x y w h) hn,uD hc hn]
  have:bh x y w h n=false:=by unfold bh;simp only[decide_eq_false_iff_not];omega
  rw[this];rfl
theorem HI.dP{c:List Int}{D:List Nat}(h:HI c D){x y w h':Int}(hx:1≤x)(hw:x+w≤23)(hy:1≤y)(hh:y+h'≤15):HI (dP c x y w h') D:=by
 have g:=fun n=>qZ c h.len x y w h' n (by omega)
 refine⟨gU ..,fun n=>?_,fun n hn=>?_,fun n hn=>?_⟩
 ·rw[g];split
  ·decide
  ·exact h.val n
 ·rw[g]at hn
  cases e:bh x y w h' n with
  | true =>
   unfold bh at e;have:=of_decide_eq_true e;unfold wL;omega
  | false =>
   rw[e]at hn;exact h.wV n hn
 ·rw[g]at hn
  cases e:bh x y w h' n with
  | true=>rw[e]at hn;simp at hn
  | false =>
   rw[e]at hn;exact h.dc n hn
theorem CT{c:List Int}{D:List Nat}(h:HI c D){x y:Int}(hx:1≤x∧x≤22)(hy:1≤y∧y≤14)(d:Bool) :
  ∃D',HI (dg x y d c).2 D'∧D'.length+(if (dg x y d c).1 then 0 else 1)≤D.length+(if d then 0 else 1):=by
 unfold dg
 by_cases e:c.getD (y*24+x).toNat 0≠0
 ·rw[if_pos e]
  exact⟨D,h,Nat.le_refl _⟩
 ·rw[if_neg e]
  have hl:=h.len;have wV:wL (y*24+x).toNat:=by unfold wL;omega
  cases d with
  | true =>
   refine⟨D,⟨by rw[List.length_set];exact hl,fun n=>?_,fun n hn=>?_,fun n hn=>?_⟩,Nat.le_refl _⟩
   ·simp only[aN]
    split
    ·simp
    ·exact h.val n
   ·simp only[aN]at hn
    split at hn
    ·rename_i q;rw[←q.1];exact wV
    ·exact h.wV n hn
   ·simp only[aN]at hn
    split at hn
    ·simp at hn
    ·exact h.dc n hn
  | false =>
   refine⟨(y*24+x).toNat::D,⟨by rw[List.length_set];exact hl,fun n=>?_,fun n hn=>?_,fun n hn=>?_⟩,by simp⟩
   ·simp only[aN]
    split
    ·simp
    ·exact h.val n
   ·simp only[aN]at hn
    split at hn
    ·rename_i q;rw[←q.1];exact wV
    ·exact h.wV n hn
   ·simp only[aN]at hn
    split at hn
    ·rename_i q;rw[←q.1];exact List.mem_cons_self
    ·exact List.mem_cons_of_mem _ (h.dc n hn)
theorem xH:∀(n:Nat) {c:List Int} {D:List Nat} {x y X Y:Int} {first d:Bool},HI c D→(1≤x∧x≤22)→(1≤y∧y≤14)→(1≤X∧X≤22)→(1≤Y∧Y≤14) →
  ∃D',HI (hall n x y X Y first d c) D'∧D'.length≤D.length+(if d then 0 else 1)
 | 0,c,D,x,y,X,Y,first,d,h,hx,hy,hX,hY=>⟨D,h,by omega⟩
 | n+1,c,D,x,y,X,Y,first,d,h,hx,hy,hX,hY=>by
  unfold hall
  by_cases e:x=X∧y=Y
  ·rw[if_pos e]
   exact⟨D,h,by omega⟩
  ·rw[if_neg e]
   obtain⟨g1,g2⟩:=qO first e hx hX hy hY
   obtain⟨D1,h1,l1⟩:=CT h g1 g2 d;obtain⟨D2,h2,l2⟩:=xH n (first:=first) (d:=(dg (bg x y X Y first).1 (bg x y X Y first).2 d c).1) h1 g1 g2 hX hY
   exact⟨D2,h2,by omega⟩
def ij(c c':List Int):Prop:=∀n,c.getD n 0≠0→c'.getD n 0≠0
theorem ij.refl(c:List Int):ij c c:=fun _ h=>h
theorem ij.trans{a b c:List Int}(h:ij a b)(h':ij b c):ij a c:=fun n x=>h' n (h n x)
theorem Bk(c:List Int)(i:Nat)(v:Int)(hv:v≠0):ij c (c.set i v):=fun n h=>by
 rw[aN];split
 ·exact hv
 ·exact h
theorem xh(x y:Int)(d:Bool)(c:List Int):ij c (dg x y d c).2:=by
 unfold dg;split
 ·exact ij.refl c
 ·exact Bk c _ _ (by split<;>decide)
theorem sI:∀(n:Nat) (c:List Int) (x y X Y:Int) (first d:Bool),ij c (hall n x y X Y first d c)
 | 0,c,x,y,X,Y,first,d=>ij.refl c
 | n+1,c,x,y,X,Y,first,d=>by
  unfold hall;split
  ·exact ij.refl c
  ·exact(xh _ _ d c).trans (sI n _ _ _ _ _ _ _)
section
variable (s fl:Int)
theorem AB(i:Int){c:List Int}{D:List Nat}(h:HI c D):HI (iq s fl i c) D:=by
 have b:=j4 s fl i;exact h.dP (by omega) (by omega) (by omega) (by omega)
theorem jl:∀n:Nat,HI ((List.range n).foldl (fun c (i:Nat)=>iq s fl i c) (List.replicate 384 0)) []
 | 0=>HI.blank
 | n+1=>by
  rw[List.range_succ,List.foldl_append];exact AB s fl n (jl n)
theorem A9:HI (mb s fl) []:=jl s fl 6
theorem dU:∀n:Nat,∃D,HI (cv s fl n) D∧D.length≤n
 | 0=>⟨[],A9 s fl,Nat.le_refl _⟩
 | n+1=>by
  obtain⟨D,h,hl⟩:=dU n;have e:cv s fl (n+1)=jY s fl ((n:Int)+1) (cv s fl n):=by unfold cv;rw[List.range_succ,List.foldl_append];rfl
  have b1:=jB s fl ((n:Int)+1-1);have b2:=jB s fl ((n:Int)+1);obtain⟨D1,h1,l1⟩:=CT h (x:=mx s fl ((n:Int)+1-1)) (y:=my s fl ((n:Int)+1-1)) (by omega) (by omega) false
  obtain⟨D2,h2,l2⟩:=xH (ig (mx s fl ((n:Int)+1-1)) (my s fl ((n:Int)+1-1)) (mx s fl ((n:Int)+1)) (my s fl ((n:Int)+1))) (first:=dv s fl ((n:Int)+1) 4 2==0) (d:=(dg (mx s fl ((n:Int)+1-1)) (my s fl ((n:Int)+1-1)) false (cv s fl n)).1) h1 (X:=mx s fl ((n:Int)+1)) (Y:=my s fl ((n:Int)+1)) (x:=mx s fl ((n:Int)+1-1)) (y:=my s fl ((n:Int)+1-1)) (by omega) (by omega) (by omega) (by omega)
  rw[e];refine⟨D2,h2,?_⟩;simp only[Bool.false_eq_true,if_false]at l1;omega
theorem qC:∀n:Nat,ij (mb s fl) (cv s fl n)
 | 0=>ij.refl _
 | n+1=>by
  have e:cv s fl (n+1)=jY s fl ((n:Int)+1) (cv s fl n):=by unfold cv;rw[List.range_succ,List.foldl_append];rfl
  rw[e];exact(qC n).trans ((xh _ _ _ _).trans (sI _ _ _ _ _ _ _ _))
theorem mU:∀n:Nat,1≤n→∀k:Nat,bh (iD s fl 0) (iC s fl 0) (eG s fl 0) (eE s fl 0) k=true→((List.range n).foldl (fun c (i:Nat)=>iq s fl i c) (List.replicate 384 0)).getD k 0≠0
 | 0,h,_,_=>absurd h (by decide)
 | n+1,_,k,hk=>by
  rw[List.range_succ,List.foldl_append];have b:=j4 s fl n;have hl:=(jl s fl n).len;show (dP ((List.range n).foldl (fun c (i:Nat)=>iq s fl i c) (List.replicate 384 0)) (iD s fl n) (iC s fl n) (eG s fl n) (eE s fl n)).getD k 0≠0
  rw[qZ _ hl _ _ _ _ _ (by omega)]
  by_cases e:n=0
  ·subst e
   have hk':bh (iD s fl ((0:Nat):Int)) (iC s fl ((0:Nat):Int)) (eG s fl ((0:Nat):Int)) (eE s fl ((0:Nat):Int)) k=true:=hk;rw[if_pos hk'];decide
  ·split
   ·decide
   ·exact mU n (by omega) k hk
theorem oS(n:Nat)(k:Nat)(hk:bh (iD s fl 0) (iC s fl 0) (eG s fl 0) (eE s fl 0) k=true):(cv s fl n).getD k 0≠0:=qC s fl n k (mU s fl 6 (by decide) k hk)
theorem qo:wL (aG s fl).toNat∧0≤aG s fl∧aG s fl<384:=by
 have b:=jB s fl 0;unfold aG wL;omega
theorem cG:GC (aG s fl):=⟨(qo s fl).2.1,(qo s fl).2.2⟩
theorem gh(n:Nat):(bA s fl).getD n 0=if n=(aG s fl).toNat then 3 else (cv s fl 5).getD n 0:=by
 obtain⟨D,h,_⟩:=dU s fl 5;have b:=qo s fl;have hl:=h.len;unfold bA;rw[aN]
 by_cases e:n=(aG s fl).toNat
 ·rw[if_pos e,if_pos ⟨e.symm,by omega⟩]
 ·rw[if_neg e,if_neg (fun q=>e q.1.symm)]
theorem jG:(bA s fl).length=384:=by
 obtain⟨D,h,_⟩:=dU s fl 5;unfold bA;rw[List.length_set];exact h.len
theorem fv(n:Nat):0≤(bA s fl).getD n 0∧(bA s fl).getD n 0≤3:=by
 obtain⟨D,h,_⟩:=dU s fl 5;rw[gh];have:=h.val n;split
 ·decide
 ·omega
theorem nu:CB (bA s fl):=fun i=>by have:=fv s fl i;omega
theorem gF{c:List Int}{n:Int}(h:0≤c.getD n.toNat 0∧c.getD n.toNat 0≤5):Wk c n↔c.getD n.toNat 0≠0:=by
 show aQ (c.getD n.toNat 0)=true↔_;unfold aQ;rw[decide_eq_true_eq];omega
theorem eI:bm (bj (bA s fl) []) (eL (bA s fl) [aG s fl]) (aF s fl):=(uQ (bA s fl) (nu s fl) (aG s fl)).2
theorem tD:Wk (bA s fl) (aG s fl):=by
 have v:=fv s fl (aG s fl).toNat;rw[gF (by omega),gh,if_pos rfl];decide
theorem nW:Field.rd (aF s fl) (aG s fl)=0:=((eI s fl).zero _ (cG s fl)).2 ⟨by simp,tD s fl⟩
theorem sj(n:Int)(hn:GC n)(h:Field.rd (aF s fl) n=0):n=aG s fl:=by
 have:=(((eI s fl).zero n hn).1 h).1;simpa using this
theorem D4(n:Int)(hn:GC n)(h:0≤Field.rd (aF s fl) n):Wk (bA s fl) n:=by
 by_cases h0:Field.rd (aF s fl) n=0
 ·rw[sj s fl n hn h0];exact tD s fl
 ·exact((eI s fl).up n hn (by omega)).1.1
theorem vM:∀(N:Nat) (l:List Nat),l.Nodup→(∀x∈l,x<N)→l.length≤N
 | 0,l,_,h=>by
  cases l with
  | nil=>exact Nat.le_refl _
  | cons a l=>exact absurd (h a List.mem_cons_self) (Nat.not_lt_zero a)
 | N+1,l,hn,h=>by
  have h1:(l.erase N).Nodup:=hn.erase N;have h2:=vM N (l.erase N) h1 fun x hx=>by
   have a:=h x (List.mem_of_mem_erase hx);have b:x≠N:=fun e=>by
    subst e;exact(hn.not_mem_erase) hx
   omega
  by_cases hm:N∈l
  ·have:=List.length_erase_of_mem hm
   omega
  ·have:=List.erase_of_not_mem hm
   rw[this]at h2;omega
theorem oB{opn T:Int→Prop}{f:List Int}(h:bm opn T f):∀(d:Nat) (n:Int),GC n→Field.rd f n=d→∃l:List Nat,l.length=d+1∧l.Nodup∧∀x∈l,x<384∧Field.rd f x≤d
 | 0,n,hn,e=>⟨[n.toNat],rfl,by simp,fun x hx=>by
  unfold GC at hn;have:x=n.toNat:=by simpa using hx
  subst this;rw[show ((n.toNat:Nat):Int)=n by omega,e]
  exact⟨by omega,Int.le_refl _⟩⟩
 | d+1,n,hn,e=>by
  obtain⟨ho,m,hm,ha,hv⟩:=h.up n hn (by omega)
  obtain⟨l,h1,h2,h3⟩:=oB h d m hm (by omega)
  unfold GC at hn;refine⟨n.toNat::l,by simp[h1],List.nodup_cons.2 ⟨fun hx=>?_,h2⟩,fun x hx=>?_⟩
  ·have:=(h3 _ hx).2
   rw[show ((n.toNat:Nat):Int)=n by omega,e]at this
   omega
  ·rcases List.mem_cons.1 hx with rfl | hx
   ·rw[show ((n.toNat:Nat):Int)=n by omega,e]
    exact⟨by omega,by omega⟩
   ·have:=h3 x hx
    omega
theorem BR{opn T:Int→Prop}{f:List Int}(h:bm opn T f)(n:Int)(hn:GC n):Field.rd f n≤383:=by
 by_cases h0:0≤Field.rd f n
 ·obtain⟨l,h1,h2,h3⟩:=oB h (Field.rd f n).toNat n hn (by omega)
  have:=vM 384 l h2 fun x hx=>(h3 x hx).1
  omega
 ·omega
theorem pL(f:List Int)(u:Int):∀n:Nat,n≤384→(dn f u n=u∨∃i:Nat,i<n∧dn f u n=i∧Field.rd f u<Field.rd f i∧∀j:Nat,j<i→Field.rd f j<Field.rd f i)∧∀j:Nat,j<n→Field.rd f j≤Field.rd f (dn f u n)
 | 0,_=>⟨.inl rfl,fun j hj=>absurd hj (Nat.not_lt_zero j)⟩
 | n+1,hn=>by
  obtain⟨h1,h2⟩:=pL f u n (by omega)
  have e:dn f u (n+1)=if Field.rd f n>Field.rd f (dn f u n) then (n:Int) else dn f u n:=by unfold dn;rw[List.range_succ,List.foldl_append];rfl
  rw[e]
  by_cases g:Field.rd f n>Field.rd f (dn f u n)
  ·rw[if_pos g]
   refine⟨.inr ⟨n,by omega,rfl,?_,fun j hj=>?_⟩,fun j hj=>?_⟩
   ·rcases h1 with q | ⟨i,hi,q,q1,q2⟩
    ·rw[q]at g;exact g
    ·rw[q]at g;omega
   ·have:=h2 j hj;omega
   ·by_cases ej:j=n
    ·subst ej;exact Int.le_refl _
    ·have:=h2 j (by omega);omega
  ·rw[if_neg g]
   refine⟨h1.imp id fun⟨i,a,b,c,d⟩=>⟨i,by omega,b,c,d⟩,fun j hj=>?_⟩
   by_cases ej:j=n
   ·subst ej;omega
   ·exact h2 j (by omega)
theorem xP:∃n,GC n∧Field.rd (aF s fl) n=1:=by
 have b:=j4 s fl 0;have eu:aG s fl=(iC s fl 0+eE s fl 0/2)*24+(iD s fl 0+eG s fl 0/2):=rfl;have ub:=qo s fl;refine⟨aG s fl-1,⟨by omega,by omega⟩,?_⟩
 have ad:jU (aG s fl-1) (aG s fl):=by
  have:=ri (m:=aG s fl-1) (by omega)
  rw[show aG s fl-1+1=aG s fl by omega]at this
  exact this
 have hne:(bA s fl).getD (aG s fl-1).toNat 0≠0:=by
  rw[gh,if_neg (by omega)]
  refine oS s fl 5 _ ?_;unfold bh;rw[decide_eq_true_eq];omega
 have hw:Wk (bA s fl) (aG s fl-1):=by
  have v:=fv s fl (aG s fl-1).toNat;rw[gF (by omega)];exact hne
 have gc:GC (aG s fl-1):=⟨by omega,by omega⟩
 have:=(eI s fl).down (aG s fl) (aG s fl-1) (cG s fl) gc (by rw[nW];decide) (jQ _ _ gc (cG s fl) ad) ⟨hw,fun x=>absurd x.2 (by simp)⟩
 rw[nW]at this
 by_cases h0:Field.rd (aF s fl) (aG s fl-1)=0
 ·have:=sj s fl _ gc h0;omega
 ·omega
theorem qW:∃i:Nat,i<384∧az s fl=i∧1≤Field.rd (aF s fl) i∧(∀j:Nat,j<i→Field.rd (aF s fl) j<Field.rd (aF s fl) i)∧∀j:Nat,j<384→Field.rd (aF s fl) j≤Field.rd (aF s fl) i:=by
 obtain⟨h1,h2⟩:=pL (aF s fl) (aG s fl) 384 (Nat.le_refl _);obtain⟨n,gn,hn⟩:=xP s fl;have:=h2 n.toNat (by unfold GC at gn;omega)
 rw[show ((n.toNat:Nat):Int)=n by unfold GC at gn;omega,hn]at this
 rcases h1 with q | ⟨i,hi,q,q1,q2⟩
 ·rw[q,nW]at this;exact absurd this (by decide)
 ·have e:az s fl=i:=q
  refine⟨i,hi,q,by rw[q]at this;exact this,q2,fun j hj=>?_⟩
  have:=h2 j hj;rw[q]at this;exact this
theorem lO:GC (az s fl):=by obtain⟨i,hi,e,_⟩:=qW s fl;rw[e];exact⟨by omega,by omega⟩
theorem lT:1≤Field.rd (aF s fl) (az s fl):=by obtain⟨i,hi,e,h,_⟩:=qW s fl;rw[e];exact h
theorem Fk:az s fl≠aG s fl:=fun e=>by
 have:=lT s fl;rw[e,nW]at this;exact absurd this (by decide)
theorem tY:Wk (bA s fl) (az s fl):=D4 s fl _ (lO s fl) (by have:=lT s fl;omega)
theorem iu:(cellsD s fl).length=384:=by unfold cellsD;rw[List.length_set];exact jG s fl
theorem gq(n:Nat):(cellsD s fl).getD n 0=if n=(az s fl).toNat then 4 else (bA s fl).getD n 0:=by
 have hl:=jG s fl;have g:=lO s fl;unfold GC at g;unfold cellsD;rw[aN]
 by_cases e:n=(az s fl).toNat
 ·rw[if_pos e,if_pos ⟨e.symm,by omega⟩]
 ·rw[if_neg e,if_neg (fun q=>e q.1.symm)]
theorem lq{i:Nat}(h:cD s fl=some i):i<384∧(cellsD s fl).getD i 0=1:=by
 unfold cD at h;split at h
 ·have h1:=List.mem_of_find?_eq_some h
  have h2:=List.find?_some h;simp only[Bool.and_eq_true,beq_iff_eq]at h2;exact⟨List.mem_range.1 h1,h2.1⟩
 ·cases h
theorem bR:(cells s fl).length=384:=by
 unfold cells;split
 ·rw[List.length_set];exact iu s fl
 ·exact iu s fl
theorem nm(n:Nat):(cells s fl).getD n 0=if cD s fl=some n then 5 else (cellsD s fl).getD n 0:=by
 have hl:=iu s fl;unfold cells;cases h:cD s fl with
 | none=>rw[if_neg (by simp)]
 | some i =>
  simp only
  have hi:=lq s fl h;rw[aN]
  by_cases e:i=n
  ·rw[if_pos ⟨e,by omega⟩,if_pos (by rw[e])]
  ·rw[if_neg (fun q=>e q.1),if_neg (fun q=>e (by cases q;rfl))]
theorem iL(n:Nat):(cells s fl).getD n 0=if cD s fl=some n then 5 else if n=(az s fl).toNat then 4 else if n=(aG s fl).toNat then 3 else (cv s fl 5).getD n 0:=by
 rw[nm,gq,gh]
theorem x9(n:Nat):(cells s fl).getD n 0≠0↔(bA s fl).getD n 0≠0:=by
 rw[nm,gq]
 by_cases h:cD s fl=some n
 ·rw[if_pos h]
  have:=(lq s fl h).2;rw[gq]at this;constructor
  ·intro _
   split at this
   ·simp at this
   ·rw[this];decide
  ·intro _;decide
 ·rw[if_neg h]
  by_cases e:n=(az s fl).toNat
  ·rw[if_pos e]
   constructor
   ·intro _
    have v:=fv s fl (az s fl).toNat;have:=(gF (by omega)).1 (tY s fl)
    rw[e];exact this
   ·intro _;decide
  ·rw[if_neg e]
theorem dq(n:Nat):0≤(cells s fl).getD n 0∧(cells s fl).getD n 0≤5:=by
 rw[nm,gq];have:=fv s fl n;split
 ·decide
 ·split
  ·decide
  ·omega
theorem bX:CB (cells s fl):=fun i=>by have:=dq s fl i;omega
theorem iU(n:Int):Wk (cells s fl) n↔Wk (bA s fl) n:=by
 have v:=fv s fl n.toNat;rw[gF (dq s fl _),gF (by omega)]
 exact x9 s fl n.toNat
theorem uB(n:Nat):(cells s fl).getD n 0=3↔n=(aG s fl).toNat:=by
 obtain⟨D,h,_⟩:=dU s fl 5;have hv:=h.val n;have g1:=lO s fl;have g2:=cG s fl;have ne:=Fk s fl;unfold GC at g1 g2;rw[iL];constructor
 ·intro e
  split at e
  ·simp at e
  ·split at e
   ·simp at e
   ·split at e
    ·assumption
    ·omega
 ·intro e
  rw[if_neg,if_neg (by omega),if_pos e]
  intro q;have:=(lq s fl q).2;rw[gq,if_neg (by omega),gh,if_pos e]at this
  simp at this
theorem x7(n:Nat):(cells s fl).getD n 0=4↔n=(az s fl).toNat:=by
 obtain⟨D,h,_⟩:=dU s fl 5;have hv:=h.val n;rw[iL];constructor
 ·intro e
  split at e
  ·simp at e
  ·split at e
   ·assumption
   ·split at e
    ·simp at e
    ·omega
 ·intro e
  rw[if_neg,if_pos e];intro q;have:=(lq s fl q).2;rw[gq,if_pos e]at this;simp at this
theorem mA(n:Nat):(cells s fl).getD n 0=5↔cD s fl=some n:=by
 obtain⟨D,h,_⟩:=dU s fl 5;have hv:=h.val n;rw[iL];constructor
 ·intro e
  split at e
  ·assumption
  ·split at e
   ·simp at e
   ·split at e
    ·simp at e
    ·omega
 ·intro e
  rw[if_pos e]
end
end Go.Proofs.YthdgahpomhnidaaGreat.Fl
namespace Go.Proofs.YthdgahpomhnidaaGreat.Fl
open Go Mx Pc Run Field Gen GenL
theorem GM(k0:Int×Int×Int×Int×Int×Int×Int×Int×List Int×dm→Option jX)(Q:jX→Prop)(s fl i w h x y b:Int)(c:List Int)(t:dm)(hc:c.length=384)(hx:0≤x)(hw:0≤w)(hxw:x+w≤24)(hb:0≤b∧b<16)
  (k:OK (k0 (s,fl,i,w,h,x,y,b+1,dP c x b w 1,t)) Q):OK (f64.L1 k0 (s,fl,i,w,h,x,y,b,x,c,t)) Q:=by
 unfold f64.L1;refine OK.loop (fun j:Nat×List Int=>(s,fl,i,w,h,x,y,b,x+(j.1:Int),j.2,t)) (fun j=>(j.1:Int)≤w∧j.2.length=384∧∀n:Nat,n<384→j.2.getD n 0=if bh x b j.1 1 n then 1 else c.getD n 0) (fun j=>w.toNat-j.1) (fun rec j hj ih=>?_) (0,c) (by simp) ⟨by dsimp only;omega,hc,fun n hn=>by
  have:bh x b ((0:Nat):Int) 1 n=false:=by unfold bh;simp only[decide_eq_false_iff_not];omega
  dsimp only;rw[this];rfl⟩ (by dsimp only;omega)
 obtain⟨j,c1⟩:=j;obtain⟨hj,hc1,hg⟩:=hj;dsimp only at hj hc1 hg ih ⊢;rw[wr (x:=x+w) (by omega),af]
 by_cases q:x+(j:Int)<x+w
 ·have e:IntKind.wrap .i64 (IntKind.wrap .i64 (b*24)+(x+(j:Int)))=b*24+(x+j):=by rw[wr (x:=b*24) (by omega),wr (by omega)]
  rw[if_pos q,e,ao (by omega),cond_true,wr (by omega)]
  refine ih (j+1,c1.set (b*24+(x+j)).toNat 1) ⟨by dsimp only;omega,by dsimp only;rw[List.length_set];exact hc1,fun n hn=>?_⟩ (by dsimp only;omega) _ (by
   have:x+(j:Int)+1=x+((j+1:Nat):Int):=by omega
   rw[this])
  dsimp only;rw[aN,hg n hn]
  by_cases e1:(b*24+(x+j)).toNat=n
  ·have:bh x b ((j+1:Nat):Int) 1 n=true:=by unfold bh;rw[decide_eq_true_eq];omega
   rw[if_pos ⟨e1,by omega⟩,this];rfl
  ·rw[if_neg (fun z=>e1 z.1)]
   have:bh x b ((j+1:Nat):Int) 1 n=bh x b (j:Int) 1 n:=by unfold bh;rw[decide_eq_decide];omega
   rw[this]
 ·rw[if_neg q,wr (by omega)]
  have ej:(j:Int)=w:=by omega
  have:c1=dP c x b w 1:=pJ hc1 (gU ..) fun n hn=>by rw[hg n hn,jo _ _ _ _ _ n hn,ej]
  rw[this];exact k
theorem Fx(k0:Int×Int×Int×List Int×dm→Option jX)(Q:jX→Prop)(s fl w h x y:Int)(i:Nat)(hi:i<6)(c:List Int)(t:dm)(hc:c.length=384)(hx:0≤x)(hw:1≤w)(hxw:x+w≤24)(hy:0≤y)(hh:1≤h)(hyh:y+h≤16)
  (k:∀t',(∀j,j<6→nj t' j=if j=i then x+w/2 else nj t j)→(∀j,j<6→nd t' j=if j=i then y+h/2 else nd t j)→OK (k0 (s,fl,((i+1:Nat):Int),dP c x y w h,t')) Q):OK (f64.L2 k0 (s,fl,(i:Int),w,h,x,y,y,c,t)) Q:=by
 unfold f64.L2;refine OK.loop (fun j:Nat×List Int=>(s,fl,(i:Int),w,h,x,y,y+(j.1:Int),j.2,t)) (fun j=>(j.1:Int)≤h∧j.2.length=384∧∀n:Nat,n<384→j.2.getD n 0=if bh x y w j.1 n then 1 else c.getD n 0) (fun j=>h.toNat-j.1) (fun rec j hj ih=>?_) (0,c) (by simp) ⟨by dsimp only;omega,hc,fun n hn=>by
  have:bh x y w ((0:Nat):Int) n=false:=by unfold bh;simp only[decide_eq_false_iff_not];omega
  dsimp only;rw[this];rfl⟩ (by dsimp only;omega)
 obtain⟨j,c1⟩:=j;obtain⟨hj,hc1,hg⟩:=hj;dsimp only at hj hc1 hg ih ⊢;rw[wr (x:=y+h) (by omega),af]
 by_cases q:y+(j:Int)<y+h
 ·rw[if_pos q]
  refine GM rec Q s fl (i:Int) w h x y (y+j) c1 t hc1 hx (by omega) hxw (by omega) ?_
  refine ih (j+1,dP c1 x (y+j) w 1) ⟨by dsimp only;omega,gU ..,fun n hn=>?_⟩ (by dsimp only;omega) _ (by
   have:y+(j:Int)+1=y+((j+1:Nat):Int):=by omega
   rw[this])
  dsimp only;rw[jo _ _ _ _ _ n hn,hg n hn]
  by_cases e1:bh x (y+j) w 1 n=true
  ·have e1':=e1
   unfold bh at e1';have e2:=of_decide_eq_true e1';have:bh x y w ((j+1:Nat):Int) n=true:=by unfold bh;rw[decide_eq_true_eq];omega
   rw[if_pos e1,if_pos this]
  ·have e1':=e1
   unfold bh at e1';rw[decide_eq_true_eq]at e1';have:bh x y w ((j+1:Nat):Int) n=bh x y w (j:Int) n:=by unfold bh;rw[decide_eq_decide];omega
   rw[if_neg e1,this]
 ·have wx:IntKind.wrap .i64 (x+IntKind.wrap .i64 (Int.tdiv w 2))=x+w/2:=by
   rw[Int.tdiv_eq_ediv_of_nonneg (by omega),wr (x:=w/2) (by omega),wr (by omega)]
  have wy:IntKind.wrap .i64 (y+IntKind.wrap .i64 (Int.tdiv h 2))=y+h/2:=by
   rw[Int.tdiv_eq_ediv_of_nonneg (by omega),wr (x:=h/2) (by omega),wr (by omega)]
  have wi:IntKind.wrap .i64 ((i:Int)+1)=((i+1:Nat):Int):=by rw[wr (by omega)];omega
  have ej:(j:Int)=h:=by omega
  have:c1=dP c x y w h:=pJ hc1 (gU ..) fun n hn=>by rw[hg n hn,jo _ _ _ _ _ n hn,ej]
  rw[if_neg q,ao (by omega),cond_true,cond_true,wx,wy,wi,Int.toNat_natCast,this]
  have key:∀p:Nat,∀a b:Int,(if i=p then a else b)=if p=i then a else b:=fun p a b=>by
   by_cases e:i=p
   ·rw[if_pos e,if_pos e.symm]
   ·rw[if_neg e,if_neg (fun x=>e x.symm)]
  refine k _ (fun j hj=>?_) (fun j hj=>?_)
  ·match j,hj with
   | 0,_=>exact key 0 _ _
   | 1,_=>exact key 1 _ _
   | 2,_=>exact key 2 _ _
   | 3,_=>exact key 3 _ _
   | 4,_=>exact key 4 _ _
   | 5,_=>exact key 5 _ _
  ·match j,hj with
   | 0,_=>exact key 0 _ _
   | 1,_=>exact key 1 _ _
   | 2,_=>exact key 2 _ _
   | 3,_=>exact key 3 _ _
   | 4,_=>exact key 4 _ _
   | 5,_=>exact key 5 _ _
theorem Ds(x y:Int)(d:Bool)(c:List Int)(hc:c.length=384)(hx:0≤x∧x<24)(hy:0≤y∧y<16):f120 x y d c=some ((dg x y d c).1,(dg x y d c).2,()):=by
 unfold f120 dg;have e:IntKind.wrap .i64 (IntKind.wrap .i64 (y*24)+x)=y*24+x:=by rw[wr (x:=y*24) (by omega),wr (by omega)]
 rw[e,ao (by omega),cond_true,cond_true,ao (n:=(c.set (y*24+x).toNat 1).length) (by rw[List.length_set];omega),cond_true,List.set_set]
 by_cases q:c.getD (y*24+x).toNat 0≠0
 ·have:(c.getD (y*24+x).toNat 0 !=0)=true:=bne_iff_ne.2 q
  rw[this,if_pos q];rfl
 ·have:(c.getD (y*24+x).toNat 0 !=0)=false:=by simpa using q
  rw[this,if_neg q];cases d<;>rfl
theorem qG(x y:Int)(d:Bool)(c:List Int):(dg x y d c).2.length=c.length:=by unfold dg;split<;>simp
theorem nq(x y X Y:Int)(first d:Bool)(c:List Int)(h:x=X∧y=Y):∀n,hall n x y X Y first d c=c
 | 0=>rfl
 | n+1=>by unfold hall;rw[if_pos h]
theorem GU(k0:Int×Int×Int×List Int×dm→Option jX)(Q:jX→Prop)(s fl:Int)(i:Nat)(hi:i<6)(x y:Int)(dc first:Bool)(c:List Int)(t:dm)(hc:c.length=384)(hx:GX x)(hy:GY y)(hX:GX (nj t i))(hY:GY (nd t i))
  (k:OK (k0 (s,fl,((i+1:Nat):Int),hall (ig x y (nj t i) (nd t i)) x y (nj t i) (nd t i) first dc c,t)) Q):OK (f64.L3 k0 (s,fl,(i:Int),x,y,dc,first,c,t)) Q:=by
 have eX:nj t i=[t.1,t.2.1,t.2.2.1,t.2.2.2.1,t.2.2.2.2.1,t.2.2.2.2.2.1].getD i 0:=rfl;have eY:nd t i=[t.2.2.2.2.2.2.1,t.2.2.2.2.2.2.2.1,t.2.2.2.2.2.2.2.2.1,t.2.2.2.2.2.2.2.2.2.1,t.2.2.2.2.2.2.2.2.2.2.1,t.2.2.2.2.2.2.2.2.2.2.2.1].getD i 0:=rfl;generalize nj t i=X at *
 generalize nd t i=Y at *
 generalize hH:hall (ig x y X Y) x y X Y first dc c=H at k
 unfold f64.L3;refine OK.loop (fun j:Int×Int×Bool×List Int=>(s,fl,(i:Int),j.1,j.2.1,j.2.2.1,first,j.2.2.2,t)) (fun j=>GX j.1∧GY j.2.1∧j.2.2.2.length=384∧hall (ig j.1 j.2.1 X Y) j.1 j.2.1 X Y first j.2.2.1 j.2.2.2=H) (fun j=>ig j.1 j.2.1 X Y) (fun rec j hj ih=>?_) (x,y,dc,c) rfl ⟨hx,hy,hc,hH⟩ (by dsimp only;unfold ig;unfold GX at *;unfold GY at *;omega)
 clear hH hx hy hc;obtain⟨x,y,dc,c⟩:=j;obtain⟨hx,hy,hc,hH⟩:=hj;dsimp only at hx hy hc hH ih ⊢;have wi:IntKind.wrap .i64 ((i:Int)+1)=((i+1:Nat):Int):=by rw[wr (by omega)];omega
 have ir:ae (i:Int) 6=true:=ao (by omega)
 simp only[Int.toNat_natCast,←eX,←eY,ir,cond_true,wi];have hx':=hx;have hy':=hy;unfold GX at hx' hX;unfold GY at hy' hY
 by_cases both:x=X∧y=Y
 ·have q1:(x !=X)=false:=by simp[both.1]
  have q2:(y !=Y)=false:=by simp[both.2]
  rw[q1,q2,cond_false,cond_false];rw[nq _ _ _ _ _ _ _ both]at hH;subst hH;exact OK.aD (R:=fun z=>∃q,z=Sum.inr q∧Q q) (OK.aD k fun q hq=>OK.ret ⟨q,rfl,hq⟩) (fun z ⟨q,e,hq⟩=>by subst e;exact OK.ret hq)
 ·have hg:=rS first both
  have hin:=qO first both (x0:=0) (x1:=23) (y0:=0) (y1:=15) (by omega) (by omega) (by omega) (by omega)
  obtain⟨n,en⟩:∃n,ig x y X Y=n+1:=⟨_,hg.symm⟩
  rw[en]at hH;unfold hall at hH;rw[if_neg both]at hH;have en':ig (bg x y X Y first).1 (bg x y X Y first).2 X Y=n:=by omega
  refine OK.aD (R:=fun z=>z=Sum.inl (s,fl,(i:Int),x,y,dc,first,c,t)) ?_ ?_
  ·by_cases h1:x=X
   ·have q1:(x !=X)=false:=by simp[h1]
    have q2:(y !=Y)=true:=by simp;exact fun e=>both ⟨h1,e⟩
    rw[q1,q2,cond_false,cond_true];exact OK.ret rfl
   ·have q1:(x !=X)=true:=by simpa using h1
    rw[q1,cond_true];exact OK.ret rfl
  ·intro z e
   subst e;simp only[Sum.elim_inl,Int.toNat_natCast,←eX,←eY,ir,cond_true];refine OK.aD (R:=fun z=>z=Sum.inl (s,fl,(i:Int),(bg x y X Y first).1,(bg x y X Y first).2,dc,first,c,t)) ?_ ?_
   ·have gx:GX x:=hx
    have gy:GY y:=hy;rw[kx x X (by omega),kx y Y (by omega)]
    simp only[Option.bind_some];cases first with
    | true =>
     by_cases h1:x=X
     ·have q1:(x !=X)=false:=by simp[h1]
      have es:bg x y X Y true=(x,kN y Y):=if_neg (by simp[h1])
      rw[q1,es];exact OK.ret rfl
     ·have q1:(x !=X)=true:=by simpa using h1
      have es:bg x y X Y true=(kN x X,y):=if_pos (.inl ⟨rfl,h1⟩);rw[q1,es];exact OK.ret rfl
    | false =>
     by_cases h2:y=Y
     ·have q2:(y==Y)=true:=by simp[h2]
      have es:bg x y X Y false=(kN x X,y):=if_pos (.inr ⟨rfl,h2⟩);rw[q2,es];exact OK.ret rfl
     ·have q2:(y==Y)=false:=by simpa using h2
      have es:bg x y X Y false=(x,kN y Y):=if_neg (by simp[h2])
      rw[q2,es];exact OK.ret rfl
   ·intro z e
    subst e;simp only[Sum.elim_inl];generalize bg x y X Y first=p at *
    obtain⟨x',y'⟩:=p;dsimp only at *
    rw[Ds x' y' dc c hc (by omega) (by omega)]
    simp only[Option.bind_some];refine ih (x',y',(dg x' y' dc c).1,(dg x' y' dc c).2) ⟨by dsimp only;unfold GX;omega,by dsimp only;unfold GY;omega,by dsimp only;rw[qG];exact hc,?_⟩ (by dsimp only;omega) _ rfl
    dsimp only;rw[en'];exact hH
def bO(c f:List Int)(az:Int)(i:Nat):Bool:=c.getD i 0==1&&f.getD i 0==Field.rd f az/2
theorem shop_r(s fl az:Int)(c f:List Int)(hc:c.length=384)(hf:f.length=384)(hfar:GC az)(h0:0≤Field.rd f az∧Field.rd f az≤100000) :
  f64.L4 (s,fl,az,false,0,c,f,())=some (Sum.inl (s,fl,((List.range 384).find? (bO c f az)).isSome,(match (List.range 384).find? (bO c f az) with | some i=>c.set i 5 | none=>c),f,())):=by
 have hfar':=hfar;unfold GC at hfar';have e2:IntKind.wrap .i64 (Int.tdiv (f.getD az.toNat 0) 2)=Field.rd f az/2:=by
  have:f.getD az.toNat 0=Field.rd f az:=rfl;rw[this,Int.tdiv_eq_ediv_of_nonneg h0.1,wr (by omega)]
 have fin1:∀i,i<384→bO c f az i=true→(∀j,j<i→bO c f az j=false)→(List.range 384).find? (bO c f az)=some i:=fun i hi h hj=>List.find?_range_eq_some.2 ⟨h,List.mem_range.2 hi,fun j q=>by rw[hj j q];rfl⟩
 have fin0:(∀j,j<384→bO c f az j=false)→(List.range 384).find? (bO c f az)=none:=fun hj=>List.find?_range_eq_none.2 fun j q=>by rw[hj j q];rfl
 refine OK.eq ?_;unfold f64.L4;refine OK.loop (fun j:Nat×Bool×List Int=>(s,fl,az,j.2.1,(j.1:Int),j.2.2,f,())) (fun j=>j.1≤384∧j.2.2.length=384∧((j.2.1=false∧j.2.2=c∧∀k,k<j.1→bO c f az k=false)∨(j.2.1=true∧∃k,k<384∧bO c f az k=true∧(∀i,i<k→bO c f az i=false)∧j.2.2=c.set k 5))) (fun j=>384-j.1) (fun rec j hj ih=>?_) (0,false,c) rfl ⟨Nat.zero_le _,hc,.inl ⟨rfl,rfl,fun k hk=>absurd hk (Nat.not_lt_zero k)⟩⟩ (by dsimp only;decide)
 obtain⟨i,b,c'⟩:=j;obtain⟨hi,hl,hI⟩:=hj;dsimp only at hi hl hI ih ⊢;have done:∀(b:Bool) (c':List Int),(b=true∧∃k,k<384∧bO c f az k=true∧(∀i,i<k→bO c f az i=false)∧c'=c.set k 5) →
   OK (some (Sum.inl (α:=Int×Int×Bool×List Int×List Int×Unit) (β:=jX) (s,fl,b,c',f,()))) fun z=>z=Sum.inl (s,fl,((List.range 384).find? (bO c f az)).isSome,(match (List.range 384).find? (bO c f az) with | some i=>c.set i 5 | none=>c),f,()):=by
  rintro b c' ⟨rfl,k,hk,h1,h2,rfl⟩
  rw[fin1 k hk h1 h2];exact OK.ret rfl
 by_cases c4:i<384
 ·have c4':(i:Int)<384:=by omega
  have wj:IntKind.wrap .i64 ((i:Int)+1)=((i+1:Nat):Int):=by rw[wr (by omega)];omega
  rw[af,if_pos c4',ao (i:=(i:Int)) (n:=c'.length) (by omega),ao (i:=(i:Int)) (n:=f.length) (by omega),ao (i:=az) (n:=f.length) (by omega),wj,e2]
  simp only[cond_true,Int.toNat_natCast];rcases hI with ⟨rfl,rfl,hn⟩ | hI
  ·rw[Bool.not_false,cond_true]
   have skip:bO c' f az i=false→OK (rec (s,fl,az,false,((i+1:Nat):Int),c',f,())) _:=fun hp=>ih (i+1,false,c') ⟨by dsimp only;omega,hl,.inl ⟨rfl,rfl,fun k hk=>by
    rcases Nat.lt_or_ge k i with q | q
    ·exact hn k q
    ·have:k=i:=by dsimp only at hk;omega
     rw[this];exact hp⟩⟩ (by dsimp only;omega) _ rfl
   refine OK.bif (fun h1=>?_) (fun h1=>skip (by unfold bO;rw[h1];rfl))
   refine OK.bif (fun h2=>?_) (fun h2=>skip (by unfold bO;rw[h2,Bool.and_false]))
   exact ih (i+1,true,c'.set i 5) ⟨by dsimp only;omega,by dsimp only;rw[List.length_set];exact hl,.inr ⟨rfl,i,c4,by unfold bO;rw[h1,h2];rfl,hn,rfl⟩⟩ (by dsimp only;omega) _ rfl
  ·have hb:=hI.1
   subst hb;exact done true c' hI
 ·have c4':¬(i:Int)<384:=by omega
  rw[af,if_neg c4'];rcases hI with ⟨rfl,rfl,hn⟩ | hI
  ·rw[fin0 fun j hj=>hn j (by omega)]
   exact OK.ret rfl
  ·exact done b c' hI
noncomputable def pk(s fl:Int)(c f:List Int)(az a:Int)(taken:List Int):Int:=(aP c f az taken).getD (dv s fl a 0 (aP c f az taken).length).toNat 0
theorem kr(c f:List Int)(az:Int)(taken:List Int):(aP c f az taken).length≤384:=by
 unfold aP;rw[List.length_map];have:=List.length_filter_le (fun i:Nat=>c.getD i 0==1&&decide (az≤f.getD i 0)&&!taken.contains (i:Int)) (List.range 384)
 rw[List.length_range]at this;exact this
theorem g8{c f:List Int}{az:Int}{taken:List Int}{n:Int}(h:n∈aP c f az taken):0≤n∧n<384∧c.getD n.toNat 0=1∧az≤f.getD n.toNat 0∧n∉taken:=by
 unfold aP at h;obtain⟨i,hi,rfl⟩:=List.mem_map.1 h;obtain⟨h1,h2⟩:=List.mem_filter.1 hi;have:=List.mem_range.1 h1;simp only[Bool.and_eq_true,beq_iff_eq,decide_eq_true_eq,Bool.not_eq_true',List.contains_eq_mem,decide_eq_false_iff_not]at h2;rw[Int.toNat_natCast];exact⟨by omega,by omega,h2.1.1,h2.1.2,h2.2⟩
theorem lH(s fl:Int)(c f:List Int)(az a:Int)(taken:List Int)(h:aP c f az taken≠[]):pk s fl c f az a taken∈aP c f az taken:=by
 have h1:1≤(aP c f az taken).length:=by
  cases e:aP c f az taken with
  | nil=>exact absurd e h
  | cons _ _=>simp
 have hl:=kr c f az taken;have:=(ct s fl a 0 (aP c f az taken).length (by omega) (by omega)).2
 unfold pk;rw[List.getD_eq_getElem?_getD,List.getElem?_eq_getElem (by omega)]
 exact List.getElem_mem _
def Used(used:List Bool)(taken:List Int):Prop:=used.length=384∧∀i:Nat,i<384→used.getD i false=taken.contains (i:Int)
theorem Used.add{used:List Bool}{taken:List Int}(h:Used used taken){n:Int}(hn:0≤n):Used (used.set n.toNat true) (taken++[n]):=⟨by rw[List.length_set];exact h.1,fun i hi=>by
 have hl:=h.1;rw[aN];have e0:(taken++[n]).contains (i:Int)=(taken.contains (i:Int)||(i:Int)==n):=by
  simp only[List.contains_eq_mem,List.mem_append,List.mem_singleton,Bool.decide_or];rfl
 rw[e0,←h.2 i hi]
 by_cases e:n.toNat=i
 ·have:((i:Int)==n)=true:=by rw[beq_iff_eq];omega
  rw[if_pos ⟨e,by omega⟩,this,Bool.or_true]
 ·have:((i:Int)==n)=false:=by rw[beq_eq_false_iff_ne];omega
  rw[if_neg (fun z=>e z.1),this,Bool.or_false]⟩
theorem Used.none:Used (List.replicate 384 false) []:=⟨List.length_replicate,fun i hi=>by
 rw[List.getD_eq_getElem?_getD,List.getElem?_replicate];split<;>rfl⟩
theorem zf(c f:List Int)(az:Int)(used:List Bool)(taken:List Int)(s fl a:Int)(hc:c.length=384)(hf:f.length=384)(hu:Used used taken) :
  f123 c f az used s fl a=some (if aP c f az taken=[] then -1 else pk s fl c f az a taken,()):=by
 have hul:=hu.1;refine OK.eq ?_;unfold f123 f123.L1;refine OK.loop (fun j:Nat×List Int=>(c,f,az,used,s,fl,a,(j.1:Int),j.2,())) (fun j=>j.1≤384∧j.2=((List.range j.1).filter fun i:Nat=>c.getD i 0==1&&decide (az≤f.getD i 0)&&!taken.contains (i:Int)).map fun i:Nat=>(i:Int)) (fun j=>384-j.1) (fun rec j hj ih=>?_) (0,[]) rfl ⟨Nat.zero_le _,rfl⟩ (by dsimp only;decide)
 obtain⟨i,l⟩:=j;obtain⟨hi,hl⟩:=hj;dsimp only at hi hl ih ⊢
 by_cases c4:i<384
 ·have c4':(i:Int)<384:=by omega
  have wj:IntKind.wrap .i64 ((i:Int)+1)=((i+1:Nat):Int):=by rw[wr (by omega)];omega
  have hll:l.length≤384:=by
   rw[hl,List.length_map];have:=List.length_filter_le (fun i:Nat=>c.getD i 0==1&&decide (az≤f.getD i 0)&&!taken.contains (i:Int)) (List.range i)
   rw[List.length_range]at this;omega
  rw[af,if_pos c4',ao (n:=c.length) (by omega),ao (n:=f.length) (by omega),ao (n:=used.length) (by omega),cond_true,cond_true,cond_true,wj,Int.toNat_natCast,hu.2 i c4]
  have skip:(c.getD i 0==1&&decide (az≤f.getD i 0)&&!taken.contains (i:Int))=false→OK (rec (c,f,az,used,s,fl,a,((i+1:Nat):Int),l,())) _:=fun hp=>ih (i+1,l) ⟨by dsimp only;omega,by
   dsimp only;rw[List.range_succ,List.filter_append,List.filter_cons,hp];simpa using hl⟩ (by dsimp only;omega) _ rfl
  refine OK.bif (fun h1=>?_) (fun h1=>skip (by rw[h1];rfl))
  refine OK.bif (fun h2=>?_) (fun h2=>skip (by
   have:decide (az≤f.getD i 0)=false:=h2;rw[this,Bool.and_false];rfl))
  refine OK.bif (fun h3=>?_) (fun h3=>skip (by rw[h3,Bool.and_false]))
  rw[decide_eq_true (by simp[aB];omega),cond_true]
  refine ih (i+1,l++[(i:Int)]) ⟨by dsimp only;omega,?_⟩ (by dsimp only;omega) _ rfl
  have h2':decide (az≤f.getD i 0)=true:=h2;dsimp only;rw[List.range_succ,List.filter_append,List.filter_cons,h1,h2',h3,List.map_append,hl];rfl
 ·have c4':¬(i:Int)<384:=by omega
  have ei:i=384:=by omega
  subst ei;have hl':l=aP c f az taken:=hl;subst hl';rw[af,if_neg c4'];have hlen:=kr c f az taken
  by_cases h0:aP c f az taken=[]
  ·rw[if_pos h0,h0]
   exact OK.ret rfl
  ·have h1:1≤(aP c f az taken).length:=by
    cases e:aP c f az taken with
    | nil=>exact absurd e h0
    | cons _ _=>simp
   have q:(((aP c f az taken).length:Int)==0)=false:=by rw[beq_eq_false_iff_ne];omega
   have d:=ct s fl a 0 (aP c f az taken).length (by omega) (by omega)
   rw[if_neg h0,q,cond_false,d.1];simp only[Option.bind_some];rw[ao d.2,cond_true];exact OK.ret rfl
theorem EW(s fl k fF:Int)(y:Int×Int×Int×Int×Int×Int×Int×Int×Int×Int×Int×Unit)(h:1≤fl∧fl≤10000)(e:f81 (2+dv s fl (16+k) 1 (min (fl+1) 3))=some y) :
  (y.1,y.2.1,y.2.2.1,fF%24,fF/24,y.2.2.2.2.2.1,y.2.2.2.2.2.2.1,y.2.2.2.2.2.2.2.1,y.2.2.2.2.2.2.2.2.1,y.2.2.2.2.2.2.2.2.2.1,y.2.2.2.2.2.2.2.2.2.2.1)=entAt s fl k fF:=by
 have d:=(ct s fl (16+k) 1 (min (fl+1) 3) (by omega) (by omega)).2
 unfold entAt;generalize dv s fl (16+k) 1 (min (fl+1) 3)=v at *
 have:v=0∨v=1∨v=2:=by omega
 rcases this with rfl | rfl | rfl<;>(cases e;rfl)
theorem yC(v:Int):∃y,f81 v=some y:=by
 obtain⟨y,e,_⟩:=uN v;exact⟨y,e⟩
theorem Gt(s fl:Int)(b:Bool)(c f:List Int)(hc:c.length=384)(hf:f.length=384)(h1:1≤fl)(h2:fl≤10000) :
  f64.L5 (s,fl,b,0,c,f,List.replicate 384 false,[],())=some (Sum.inl (s,fl,b,c,f,mons s fl c f (fl+2).toNat 0 [] [],())):=by
 refine OK.eq ?_;unfold f64.L5;generalize hM:mons s fl c f (fl+2).toNat 0 [] []=M;refine OK.loop (fun j:Nat×List Bool×List ag×List Int=>(s,fl,b,(j.1:Int),c,f,j.2.1,j.2.2.1,())) (fun j=>(j.1:Int)≤fl+2∧Used j.2.1 j.2.2.2∧j.2.2.1.length≤j.1∧mons s fl c f (fl+2-j.1).toNat j.1 j.2.2.2 j.2.2.1=M) (fun j=>(fl+2).toNat-j.1) (fun rec j hj ih=>?_) (0,List.replicate 384 false,[],[]) rfl ⟨by dsimp only;omega,Used.none,Nat.zero_le _,by dsimp only;rw[show fl+2-((0:Nat):Int)=fl+2 by omega];exact hM⟩ (by dsimp only;omega)
 clear hM;obtain⟨i,used,es,taken⟩:=j;obtain⟨hi,hu,he,hM⟩:=hj;dsimp only at hi hu he hM ih ⊢;rw[wr (x:=fl+1) (by omega),af]
 by_cases q:(i:Int)≤fl+1
 ·obtain⟨n,en⟩:∃n,(fl+2-(i:Int)).toNat=n+1:=⟨(fl+1-i).toNat,by omega⟩
  rw[en]at hM;unfold mons at hM;rw[if_pos q,wr (x:=7+(i:Int)) (by omega),wr (x:=16+(i:Int)) (by omega),zf c f 4 used taken s fl _ hc hf hu]
  simp only[Option.bind_some]
  by_cases h0:aP c f 4 taken=[]
  ·rw[if_pos h0]at hM ⊢
   subst hM;exact OK.ret rfl
  ·have hm:=g8 (lH s fl c f 4 (7+i) taken h0)
   have hul:=hu.1;rw[if_neg h0]at hM ⊢;have d:=ct s fl (16+(i:Int)) 1 (min (fl+1) 3) (by omega) (by omega)
   rw[af,if_neg (by omega),ao (by omega),cond_true,br,d.1]
   simp only[Option.bind_some];rw[wr (x:=2+dv s fl (16+(i:Int)) 1 (min (fl+1) 3)) (by omega)]
   obtain⟨y,ey⟩:=yC (2+dv s fl (16+(i:Int)) 1 (min (fl+1) 3));rw[ey];simp only[Option.bind_some];rw[decide_eq_true (by simp[aB];omega),cond_true,wr (x:=(i:Int)+1) (by omega),Int.tmod_eq_emod_of_nonneg hm.1,Int.tdiv_eq_ediv_of_nonneg hm.1,wr (by omega)]
   have es':=EW s fl i (pk s fl c f 4 (7+i) taken) y ⟨h1,h2⟩ ey;rw[es'];refine ih (i+1,used.set (pk s fl c f 4 (7+i) taken).toNat true,es++[entAt s fl i (pk s fl c f 4 (7+i) taken)],taken++[pk s fl c f 4 (7+i) taken]) ⟨by dsimp only;omega,hu.add hm.1,by dsimp only;simp;omega,?_⟩ (by dsimp only;omega) _ rfl
   dsimp only;have:(fl+2-((i+1:Nat):Int)).toNat=n:=by omega
   rw[this];exact hM
 ·have:(fl+2-(i:Int)).toNat=0:=by omega
  rw[this]at hM;rw[if_neg q];unfold mons at hM;subst hM;exact OK.ret rfl
theorem Ec(s fl:Int)(b:Bool)(c:List Int)(es:List ag)(l:List ak)(hl:l.length≤100) :
  f64.L6 (s,fl,b,0,c,es,l,())=some (Sum.inl (c,es,l++(if b then [cN s fl 0,cN s fl 1,cN s fl 2] else []),())):=by
 refine OK.eq ?_;unfold f64.L6;refine OK.loop (fun j:Nat×List ak=>(s,fl,b,(j.1:Int),c,es,j.2,())) (fun j=>j.1≤3∧(b=false→j.1=0)∧j.2=l++[cN s fl 0,cN s fl 1,cN s fl 2].take j.1) (fun j=>3-j.1) (fun rec j hj ih=>?_) (0,l) rfl ⟨Nat.zero_le _,fun _=>rfl,by simp⟩ (by dsimp only;decide)
 obtain⟨i,l'⟩:=j;obtain⟨hi,hb,he⟩:=hj;dsimp only at hi hb he ih ⊢;rw[af]
 by_cases q:(i:Int)<3
 ·rw[if_pos q]
  cases b with
  | false =>
   have:=hb rfl;subst this;subst he;exact OK.ret (by simp)
  | true =>
   have d:=ct s fl (50+(i:Int)) 1 3 (by decide) (by decide)
   have hl':l'.length≤103:=by subst he;simp;omega
   rw[cond_true,wr (x:=50+(i:Int)) (by omega),d.1]
   simp only[Option.bind_some];rw[decide_eq_true (by simp[aB];omega),cond_true,wr (x:=(i:Int)+1) (by omega),wr (x:=1+dv s fl (50+(i:Int)) 1 3) (by omega)]
   refine ih (i+1,l'++[cN s fl i]) ⟨by dsimp only;omega,fun h=>(by cases h),?_⟩ (by dsimp only;omega) _ rfl
   dsimp only;rw[he,List.append_assoc];have:i=0∨i=1∨i=2:=by omega
   rcases this with rfl | rfl | rfl<;>rfl
 ·have:i=3:=by omega
  subst this;rw[if_neg q];subst he;cases b with
  | false=>exact absurd (hb rfl) (by decide)
  | true=>exact OK.ret rfl
theorem D5(s fl:Int)(b:Bool)(c f:List Int)(es:List ag)(hc:c.length=384)(hf:f.length=384) :
  f64.L7 (s,fl,b,0,c,f,List.replicate 384 false,es,[],())=some (c,es,its s fl c f 4 0 [] []++(if b then [cN s fl 0,cN s fl 1,cN s fl 2] else []),()):=by
 refine OK.eq ?_;unfold f64.L7;generalize hM:its s fl c f 4 0 [] []=M;refine OK.loop (fun j:Nat×List Bool×List ak×List Int=>(s,fl,b,(j.1:Int),c,f,j.2.1,es,j.2.2.1,())) (fun j=>j.1≤4∧Used j.2.1 j.2.2.2∧j.2.2.1.length≤j.1∧its s fl c f (4-j.1) j.1 j.2.2.2 j.2.2.1=M) (fun j=>4-j.1) (fun rec j hj ih=>?_) (0,List.replicate 384 false,[],[]) rfl ⟨by dsimp only;decide,Used.none,Nat.zero_le _,hM⟩ (by dsimp only;decide)
 clear hM;obtain⟨i,used,l,taken⟩:=j;obtain⟨hi,hu,he,hM⟩:=hj;dsimp only at hi hu he hM ih ⊢;rw[af]
 by_cases q:(i:Int)<4
 ·obtain⟨n,en⟩:∃n,4-i=n+1:=⟨3-i,by omega⟩
  rw[en]at hM;unfold its at hM;rw[if_pos q,wr (x:=(i:Int)+1) (by omega),wr (x:=40+(i:Int)) (by omega),zf c f 0 used taken s fl _ hc hf hu]
  simp only[Option.bind_some]
  by_cases h0:aP c f 0 taken=[]
  ·rw[if_pos h0]at hM ⊢
   refine ih (i+1,used,l,taken) ⟨by dsimp only;omega,hu,by dsimp only;omega,?_⟩ (by dsimp only;omega) _ rfl
   dsimp only;have:4-(i+1)=n:=by omega
   rw[this];exact hM
  ·have hm:=g8 (lH s fl c f 0 (40+i) taken h0)
   have hul:=hu.1;rw[if_neg h0]at hM ⊢;have d:=ct s fl (40+(i:Int)) 1 4 (by decide) (by decide)
   rw[af,if_neg (by omega),ao (by omega),cond_true,d.1]
   simp only[Option.bind_some];rw[decide_eq_true (by simp[aB];omega),cond_true,wr (x:=1+dv s fl (40+(i:Int)) 1 4) (by omega),Int.tmod_eq_emod_of_nonneg hm.1,Int.tdiv_eq_ediv_of_nonneg hm.1,wr (x:=pk s fl c f 0 (40+i) taken/24) (by omega)]
   refine ih (i+1,used.set (pk s fl c f 0 (40+i) taken).toNat true,l++[(1+dv s fl (40+(i:Int)) 1 4,1,pk s fl c f 0 (40+i) taken%24,pk s fl c f 0 (40+i) taken/24)],taken++[pk s fl c f 0 (40+i) taken]) ⟨by dsimp only;omega,hu.add hm.1,by dsimp only;simp;omega,?_⟩ (by dsimp only;omega) _ rfl
   dsimp only;have:4-(i+1)=n:=by omega
   rw[this];exact hM
 ·have:4-i=0:=by omega
  rw[this]at hM;rw[if_neg q];unfold its at hM;subst hM;rw[Ec s fl b c es l (by omega)]
  exact OK.ret rfl
theorem GW(s fl:Int)(h1:1≤fl)(h2:fl≤10000)(hD:Field.rd (aF s fl) (az s fl)≤100000) :
  f64.L8 (s,fl,aG s fl,0,bA s fl,aF s fl,())=some (floor s fl):=by
 have hfl:=(eI s fl).len;have hu:=cG s fl;refine OK.eq ?_;unfold f64.L8;refine OK.loop (fun j:Nat=>(s,fl,dn (aF s fl) (aG s fl) j,(j:Int),bA s fl,aF s fl,())) (fun j=>j≤384) (fun j=>384-j) (fun rec i hi ih=>?_) 0 rfl (Nat.zero_le _) (by decide)
 dsimp only at hi ih ⊢;have hl:=jG s fl;have hfar:GC (dn (aF s fl) (aG s fl) i):=by
  rcases(pL (aF s fl) (aG s fl) i hi).1 with e | ⟨k,hk,e,_⟩
  ·rw[e];exact hu
  ·rw[e];exact⟨by omega,by omega⟩
 unfold GC at hfar;rw[af]
 by_cases c4:(i:Int)<384
 ·have e:dn (aF s fl) (aG s fl) (i+1)=if Field.rd (aF s fl) i>Field.rd (aF s fl) (dn (aF s fl) (aG s fl) i) then (i:Int) else dn (aF s fl) (aG s fl) i:=by unfold dn;rw[List.range_succ,List.foldl_append];rfl
  have go:=ih (i+1) (by omega) (by omega)
  rw[e]at go;rw[if_pos c4,ao (i:=(i:Int)) (n:=(aF s fl).length) (by omega),ao (i:=dn (aF s fl) (aG s fl) i) (n:=(aF s fl).length) (by omega),cond_true,cond_true,wr (by omega)]
  refine OK.bif (fun h=>?_) (fun h=>?_)
  ·have h':Field.rd (aF s fl) (i:Int)>Field.rd (aF s fl) (dn (aF s fl) (aG s fl) i):=of_decide_eq_true h
   rw[if_pos h']at go;exact go _ rfl
  ·have h':¬Field.rd (aF s fl) (i:Int)>Field.rd (aF s fl) (dn (aF s fl) (aG s fl) i):=of_decide_eq_false h
   rw[if_neg h']at go;exact go _ rfl
 ·have:i=384:=by omega
  subst this;have ef:dn (aF s fl) (aG s fl) 384=az s fl:=rfl;rw[ef]at hfar ⊢;have d:=ct s fl 6 0 2 (by decide) (by decide)
  have hfd:=lT s fl;rw[if_neg c4,ao (i:=az s fl) (n:=(bA s fl).length) (by omega),cond_true,d.1]
  simp only[Option.bind_some];have eD:(bA s fl).set (az s fl).toNat 4=cellsD s fl:=rfl;rw[eD,shop_r s fl (az s fl) (cellsD s fl) (aF s fl) (iu s fl) hfl ⟨by omega,by omega⟩ ⟨by omega,hD⟩]
  have eS:(bif dv s fl 6 0 2==0 then some (Sum.inl (α:=Int×Int×Bool×List Int×List Int×Unit) (β:=jX) (s,fl,((List.range 384).find? (bO (cellsD s fl) (aF s fl) (az s fl))).isSome,(match (List.range 384).find? (bO (cellsD s fl) (aF s fl) (az s fl)) with | some i=>(cellsD s fl).set i 5 | none=>cellsD s fl),aF s fl,())) else some (Sum.inl (s,fl,false,cellsD s fl,aF s fl,())))=some (Sum.inl (s,fl,(cD s fl).isSome,cells s fl,aF s fl,())):=by
   unfold cells;have e0:cD s fl=if dv s fl 6 0 2=0 then (List.range 384).find? (bO (cellsD s fl) (aF s fl) (az s fl)) else none:=rfl
   by_cases z:dv s fl 6 0 2=0
   ·have:(dv s fl 6 0 2==0)=true:=beq_iff_eq.2 z
    rw[this,cond_true,e0,if_pos z]<;>rfl
   ·have:(dv s fl 6 0 2==0)=false:=beq_eq_false_iff_ne.2 z
    rw[this,cond_false,e0,if_neg z]<;>rfl
  rw[eS];simp only[Option.bind_some,Sum.elim_inl];rw[Gt s fl _ (cells s fl) (aF s fl) (bR s fl) hfl h1 h2];simp only[Option.bind_some,Sum.elim_inl];rw[D5 s fl _ (cells s fl) (aF s fl) _ (bR s fl) hfl];exact OK.ret rfl
theorem Ep(s fl:Int)(t:dm)(ht:∀j:Nat,j<6→nj t j=mx s fl j∧nd t j=my s fl j)(h1:1≤fl)(h2:fl≤10000)(hD:Field.rd (aF s fl) (az s fl)≤100000) :
  f64.L9 (s,fl,1,mb s fl,t)=some (floor s fl):=by
 refine OK.eq ?_;unfold f64.L9;refine OK.loop (fun j:Nat=>(s,fl,(j:Int)+1,cv s fl j,t)) (fun j=>j≤5) (fun j=>5-j) (fun rec i hi ih=>?_) 0 rfl (Nat.zero_le _) (by decide)
 dsimp only at hi ih ⊢;obtain⟨D,hh,_⟩:=dU s fl i;have hl:=hh.len;rw[af]
 by_cases q:(i:Int)+1<6
 ·have e:Int.toNat (IntKind.wrap .i64 ((i:Int)+1-1))=i:=by rw[wr (by omega)];omega
  have ir:ae (IntKind.wrap .i64 ((i:Int)+1-1)) 6=true:=ao (by rw[wr (by omega)];omega)
  have b0:=jB s fl i;have b1:=jB s fl ((i:Int)+1);have e0:=ht i (by omega)
  have e1:=ht (i+1) (by omega)
  rw[show ((i+1:Nat):Int)=(i:Int)+1 by omega]at e1
  have ex:[t.1,t.2.1,t.2.2.1,t.2.2.2.1,t.2.2.2.2.1,t.2.2.2.2.2.1].getD i 0=mx s fl i:=e0.1;have ey:[t.2.2.2.2.2.2.1,t.2.2.2.2.2.2.2.1,t.2.2.2.2.2.2.2.2.1,t.2.2.2.2.2.2.2.2.2.1,t.2.2.2.2.2.2.2.2.2.2.1,t.2.2.2.2.2.2.2.2.2.2.2.1].getD i 0=my s fl i:=e0.2;have d:=ct s fl ((i:Int)+1) 4 2 (by decide) (by decide)
  rw[if_pos q,ir,cond_true,cond_true,e,ex,ey,Ds _ _ false _ hl (by omega) (by omega),d.1]
  simp only[Option.bind_some];have ec:((i:Int)+1)=((i+1:Nat):Int):=by omega
  have go:=ih (i+1) (by omega) (by omega)
  refine GU rec _ s fl (i+1) (by omega) _ _ _ _ _ t (by rw[qG];exact hl) (by unfold GX;omega) (by unfold GY;omega) (by rw[e1.1];unfold GX;omega) (by rw[e1.2];unfold GY;omega) ?_
  refine go _ ?_;have eh:cv s fl (i+1)=jY s fl ((i:Int)+1) (cv s fl i):=by unfold cv;rw[List.range_succ,List.foldl_append];rfl
  rw[eh,e1.1,e1.2];unfold jY;have em:(i:Int)+1-1=i:=by omega
  rw[em];rfl
 ·have:i=5:=by omega
  subst this;have b0:=jB s fl 0;have e0:=ht 0 (by decide)
  have ex:t.1=mx s fl 0:=e0.1;have ey:t.2.2.2.2.2.2.1=my s fl 0:=e0.2;have e:IntKind.wrap .i64 (IntKind.wrap .i64 (t.2.2.2.2.2.2.1*24)+t.1)=aG s fl:=by rw[ex,ey,wr (x:=my s fl 0*24) (by omega),wr (by omega)];rfl
  have hu:=cG s fl;unfold GC at hu;rw[if_neg q,e,ao (by omega),cond_true]
  have eU:(cv s fl 5).set (aG s fl).toNat 3=bA s fl:=rfl;rw[eU,(uQ (bA s fl) (nu s fl) (aG s fl)).1];simp only[Option.bind_some];have eD:sA (bA s fl) (aG s fl)=aF s fl:=rfl;rw[eD,GW s fl h1 h2 hD];exact OK.ret rfl
theorem zk(s fl:Int):Field.rd (aF s fl) (az s fl)≤100000:=by
 have:=BR (eI s fl) (az s fl) (lO s fl);omega
theorem pE(s fl:Int)(h1:1≤fl)(h2:fl≤10000):f64 s fl=some (floor s fl):=by
 refine OK.eq ?_;unfold f64 f64.FG;refine OK.loop (fun j:Nat×dm=>(s,fl,(j.1:Int),(List.range j.1).foldl (fun c (i:Nat)=>iq s fl i c) (List.replicate 384 0),j.2)) (fun j=>j.1≤6∧∀k:Nat,k<j.1→nj j.2 k=mx s fl k∧nd j.2 k=my s fl k) (fun j=>6-j.1) (fun rec j hj ih=>?_) (0,(0,0,0,0,0,0,0,0,0,0,0,0,())) rfl ⟨by dsimp only;decide,fun k hk=>absurd hk (Nat.not_lt_zero k)⟩ (by dsimp only;decide)
 obtain⟨i,t⟩:=j;obtain⟨hi,ht⟩:=hj;dsimp only at hi ht ih ⊢;rw[af]
 by_cases q:(i:Int)<6
 ·have b:=j4 s fl i
  have d0:=ct s fl i 0 5 (by decide) (by decide)
  have d1:=ct s fl i 1 4 (by decide) (by decide)
  have e0:3+dv s fl i 0 5=eG s fl i:=rfl;have e1:2+dv s fl i 1 4=eE s fl i:=rfl;have d2:=ct s fl i 2 (23-eG s fl i) (by omega) (by omega)
  have d3:=ct s fl i 3 (15-eE s fl i) (by omega) (by omega)
  have e2:1+dv s fl i 2 (23-eG s fl i)=iD s fl i:=rfl;have e3:1+dv s fl i 3 (15-eE s fl i)=iC s fl i:=rfl;rw[if_pos q,d0.1,d1.1];simp only[Option.bind_some];rw[e0,e1,wr (x:=eG s fl i) (by omega),wr (x:=eE s fl i) (by omega),wr (x:=23-eG s fl i) (by omega),wr (x:=15-eE s fl i) (by omega),d2.1,d3.1]
  simp only[Option.bind_some];rw[e2,e3,wr (x:=iD s fl i) (by omega),wr (x:=iC s fl i) (by omega)]
  refine Fx rec _ s fl _ _ _ _ i (by omega) _ t (jl s fl i).len (by omega) (by omega) (by omega) (by omega) (by omega) (by omega) fun t' hx hy=>?_
  refine ih (i+1,t') ⟨by dsimp only;omega,fun k hk=>?_⟩ (by dsimp only;omega) _ ?_
  ·dsimp only at hk ⊢
   rw[hx k (by omega),hy k (by omega)]
   by_cases e:k=i
   ·subst e
    rw[if_pos rfl,if_pos rfl];exact⟨rfl,rfl⟩
   ·rw[if_neg e,if_neg e]
    exact ht k (by omega)
  ·dsimp only
   rw[List.range_succ,List.foldl_append];rfl
 ·have:i=6:=by omega
  subst this;rw[if_neg q];have:=Ep s fl t ht h1 h2 (zk s fl);show OK (f64.L9 (s,fl,1,mb s fl,t)) _;rw[this];exact OK.ret rfl
end Go.Proofs.YthdgahpomhnidaaGreat.Fl
namespace Go.Proofs.YthdgahpomhnidaaGreat.Fl
open Go Mx Pc Run Field Gen GenL
theorem na{X Y B:Type}{F:(X→Option B)→X→Option B}{G:(Y→Option B)→Y→Option B}(r:X→Y→Prop)
  (h:∀(f:X→Option B) (g:Y→Option B) x y,r x y→(∀x' y',r x' y'→f x'=g y')→F f x=G g y):∀(n:Nat) (x:X) (y:Y),r x y→Mx.it F n x=Mx.it G n y
 | 0,x,y,_=>by rw[lB,lB]
 | n+1,x,y,hr=>by
  rw[fC,fC];exact h _ _ x y hr fun x' y' q=>na r h n x' y' q
theorem zd{A B C:Type}(f:A→B→C){a a':A}{b b':B}(h:a=a')(h':b=b'):f a b=f a' b':=by rw[h,h']
theorem zq{A:Type}{c d:Prop}[Decidable c][Decidable d](h:c↔d)(a b:A):(if c then a else b)=if d then a else b:=by
 by_cases q:c
 ·rw[if_pos q,if_pos (h.1 q)]
 ·rw[if_neg q,if_neg fun z=>q (h.2 z)]
theorem lC(a:Int):f163 a=f184 a:=rfl
theorem iF(s:Int)(l:List Int):f128 s l=f169 s l:=by
 unfold f128 f169;rw[lC];refine congrArg _ (funext fun y=>?_)
 unfold f128.L1 f169.L1;refine na (fun x y=>x=(y.2.1,y.1,(y.1.length:Int),y.2.2.1,())) ?_ _ _ _ rfl
 rintro f g x ⟨l,acc,i,u⟩ rfl hr
 dsimp only;rw[lC];generalize f184 _=o;refine zd (fun a b=>bif decide (i<(l.length:Int)) then a else b) ?_ rfl
 refine zd (fun a b=>bif ae i l.length then a else b) ?_ rfl
 refine congrArg _ (funext fun y=>?_)
 exact hr _ (l,y.1,_,()) rfl
theorem j1(n s:Int)(l:List Int):f71 n s l=f146 n s l:=by
 unfold f71 f146;rw[iF]
theorem ky(m:(List Int×List ag×List ak)×Int×Int×List Int)(a b n:Int):f36 m a b n=f119 m.2.1 m.2.2.1 a b n:=by
 unfold f36 f119;rw[j1]
theorem p8(x y:Int)(hx:0≤x∧x<24)(hy:0≤y∧y<16):f69 x y=some (y*24+x,()):=by
 unfold f69;rw[wr (x:=y*24) (by omega),wr (by omega)]
theorem Fs(s fl i:Int)(c:List Int)(hc:c.length=384):f34 i s fl c=some (mx s fl i,my s fl i,s,fl,iq s fl i c,()):=by
 have b:=j4 s fl i;have d0:=ct s fl i 0 5 (by decide) (by decide)
 have d1:=ct s fl i 1 4 (by decide) (by decide)
 have e0:3+dv s fl i 0 5=eG s fl i:=rfl;have e1:2+dv s fl i 1 4=eE s fl i:=rfl;have d2:=ct s fl i 2 (23-eG s fl i) (by omega) (by omega)
 have d3:=ct s fl i 3 (15-eE s fl i) (by omega) (by omega)
 have e2:1+dv s fl i 2 (23-eG s fl i)=iD s fl i:=rfl;have e3:1+dv s fl i 3 (15-eE s fl i)=iC s fl i:=rfl;unfold f34;simp only[ky];rw[d0.1,d1.1];simp only[Option.bind_some];rw[e0,e1,wr (x:=eG s fl i) (by omega),wr (x:=eE s fl i) (by omega),wr (x:=23-eG s fl i) (by omega),wr (x:=15-eE s fl i) (by omega),d2.1,d3.1]
 simp only[Option.bind_some];rw[e2,e3,wr (x:=iD s fl i) (by omega),wr (x:=iC s fl i) (by omega)]
 have er:iq s fl i c=dP c (iD s fl i) (iC s fl i) (eG s fl i) (eE s fl i):=rfl;have ex:mx s fl i=iD s fl i+eG s fl i/2:=rfl;have ey:my s fl i=iC s fl i+eE s fl i/2:=rfl;rw[er,ex,ey];generalize eG s fl i=w at *
 generalize eE s fl i=h at *
 generalize iD s fl i=x at *
 generalize iC s fl i=y at *
 have hwh:0≤w*h∧w*h≤35:=⟨Int.mul_nonneg (by omega) (by omega),by
  have:w*h≤7*5:=Int.mul_le_mul (by omega) (by omega) (by omega) (by omega)
  omega⟩
 rw[wr (x:=w*h) (by omega)]
 refine OK.eq ?_;unfold f34.L1;refine OK.loop (fun j:Nat×List Int=>(w,h,x,y,w*h,(j.1:Int),s,fl,j.2,0,0,())) (fun j=>(j.1:Int)≤w*h∧j.2.length=384∧∀n:Nat,n<384→j.2.getD n 0=if bh x y w h n∧((n:Int)/24-y)*w+((n:Int)%24-x)<j.1 then 1 else c.getD n 0) (fun j=>(w*h).toNat-j.1) (fun rec j hj ih=>?_) (0,c) rfl ⟨by dsimp only;omega,hc,fun n hn=>by
  dsimp only;rw[if_neg]
  rintro ⟨q1,q2⟩
  unfold bh at q1;have q3:=of_decide_eq_true q1;have:0≤((n:Int)/24-y)*w:=Int.mul_nonneg (by omega) (by omega)
  omega⟩ (by dsimp only;omega)
 obtain⟨k,c1⟩:=j;obtain⟨hk,hc1,hg⟩:=hj;dsimp only at hk hc1 hg ih ⊢;rw[af]
 by_cases q:(k:Int)<w*h
 ·have hr:0≤(k:Int)%w∧(k:Int)%w<w:=⟨Int.emod_nonneg _ (by omega),Int.emod_lt_of_pos _ (by omega)⟩
  have hd0:0≤(k:Int)/w:=Int.ediv_nonneg (by omega) (by omega)
  have hd1:(k:Int)/w<h:=Int.ediv_lt_of_lt_mul (by omega) (by rw[Int.mul_comm];exact q)
  have hdm:w*((k:Int)/w)+(k:Int)%w=k:=Int.mul_ediv_add_emod _ _;have mt:Int.tmod (k:Int) w=(k:Int)%w:=Int.tmod_eq_emod_of_nonneg (by omega)
  have dt:Int.tdiv (k:Int) w=(k:Int)/w:=Int.tdiv_eq_ediv_of_nonneg (by omega)
  have w0:¬w=0:=by omega
  rw[if_pos q,af,if_neg w0,af,if_neg w0,mt,dt];generalize hcol:(k:Int)%w=col at *
  generalize hrow:(k:Int)/w=row at *
  rw[wr (x:=x+col) (by omega),wr (x:=row) (by omega),wr (x:=y+row) (by omega),p8 _ _ (by omega) (by omega)]
  simp only[Option.bind_some];rw[ao (by omega),cond_true,wr (by omega)]
  refine ih (k+1,c1.set ((y+row)*24+(x+col)).toNat 1) ⟨by dsimp only;omega,by dsimp only;rw[List.length_set];exact hc1,fun n hn=>?_⟩ (by dsimp only;omega) _ rfl
  dsimp only;rw[aN,hg n hn];have hn24:(n:Int)=(n:Int)/24*24+(n:Int)%24:=by omega
  by_cases e1:((y+row)*24+(x+col)).toNat=n
  ·have a1:(n:Int)/24=y+row:=by omega
   have a2:(n:Int)%24=x+col:=by omega
   have r:bh x y w h n=true:=by unfold bh;rw[decide_eq_true_eq];omega
   have lt:((n:Int)/24-y)*w+((n:Int)%24-x)<((k+1:Nat):Int):=by
    rw[a1,a2,show y+row-y=row by omega,show x+col-x=col by omega,Int.mul_comm row w]
    omega
   rw[if_pos ⟨e1,by omega⟩,if_pos ⟨r,lt⟩]
  ·rw[if_neg (fun z=>e1 z.1)]
   refine zq ?_ _ _;refine and_congr_right fun r=>?_
   have r':=r;unfold bh at r';have r'':=of_decide_eq_true r';constructor
   ·intro z;omega
   ·intro z
    by_cases z':((n:Int)/24-y)*w+((n:Int)%24-x)<k
    ·exact z'
    ·exfalso
     have z2:((n:Int)/24-y)*w+((n:Int)%24-x)=k:=by omega
     have u:=Int.emod_emod_of_dvd;have m1:(k:Int)%w=(n:Int)%24-x:=by
      rw[←z2,Int.add_comm,Int.add_mul_emod_self_right];exact Int.emod_eq_of_lt (by omega) (by omega)
     have m2:(k:Int)/w=(n:Int)/24-y:=by
      rw[←z2,Int.add_comm,Int.add_mul_ediv_right _ _ w0,Int.ediv_eq_zero_of_lt (by omega) (by omega)]
      omega
     rw[hcol]at m1;rw[hrow]at m2;omega
 ·have ek:(k:Int)=w*h:=by omega
  have wx:IntKind.wrap .i64 (x+IntKind.wrap .i64 (Int.tdiv w 2))=x+w/2:=by
   rw[Int.tdiv_eq_ediv_of_nonneg (by omega),wr (x:=w/2) (by omega),wr (by omega)]
  have wy:IntKind.wrap .i64 (y+IntKind.wrap .i64 (Int.tdiv h 2))=y+h/2:=by
   rw[Int.tdiv_eq_ediv_of_nonneg (by omega),wr (x:=h/2) (by omega),wr (by omega)]
  rw[if_neg q,wx,wy];have:c1=dP c x y w h:=pJ hc1 (gU ..) fun n hn=>by
   rw[hg n hn,jo _ _ _ _ _ n hn,ek];refine zq ?_ _ _;constructor
   ·exact fun z=>z.1
   ·intro r
    refine⟨r,?_⟩;unfold bh at r;have r'':=of_decide_eq_true r;have:((n:Int)/24-y+1)*w≤h*w:=Int.mul_le_mul_of_nonneg_right (by omega) (by omega)
    rw[Int.add_mul,Int.one_mul,Int.mul_comm h w]at this;omega
  rw[this];exact OK.ret rfl
theorem mo(a b:Int)(ha:-1000≤a∧a≤1000)(h:a≠b):f70 a b=some (kN a b,()):=by
 unfold f70 kN;rw[af,af]
 by_cases c:a<b
 ·rw[if_pos c,if_pos c,wr (by omega)]
 ·rw[if_neg c,if_neg c,if_pos (by omega),wr (by omega)]
theorem CN(rec:Bool×Bool×Int×Int×List Int×Int×Int×Int×Int×Unit→Option (Int×Int×List Int×Unit))(Q:Int×Int×List Int×Unit→Prop)(first d:Bool)(s fl x y X Y:Int)(c:List Int)
  (hx:GX x) (hy:GY y) (hX:GX X) (hY:GY Y) (h0:x=X∧y=Y→Q (s,fl,c,())) (h1:¬(x=X∧y=Y)→OK (rec (first,d,s,fl,c,(bg x y X Y first).1,(bg x y X Y first).2,X,Y,())) Q) :
  OK (bif x==X&&(y==Y&&true) then some (s,fl,c,()) else
   bif first then
    bif x !=X then Option.bind (f70 x X) fun y3=>rec (first,d,s,fl,c,y3.1,y,X,Y,())
    else bif y==Y then Option.bind (f70 x X) fun y4=>rec (first,d,s,fl,c,y4.1,y,X,Y,())
    else Option.bind (f70 y Y) fun y5=>rec (first,d,s,fl,c,x,y5.1,X,Y,())
   else bif y==Y then Option.bind (f70 x X) fun y6=>rec (first,d,s,fl,c,y6.1,y,X,Y,())
    else Option.bind (f70 y Y) fun y7=>rec (first,d,s,fl,c,x,y7.1,X,Y,())) Q:=by
 unfold GX at hx hX;unfold GY at hy hY
 by_cases both:x=X∧y=Y
 ·have q1:(x==X)=true:=beq_iff_eq.2 both.1
  have q2:(y==Y)=true:=beq_iff_eq.2 both.2;rw[q1,q2];exact OK.ret (h0 both)
 ·have go:=h1 both
  have q0:(x==X&&(y==Y&&true))=false:=by
   rw[Bool.and_true,Bool.and_eq_false_iff,beq_eq_false_iff_ne,beq_eq_false_iff_ne];exact(Decidable.not_and_iff_or_not.1 both)
  rw[q0,cond_false];cases first with
  | true =>
   rw[cond_true]
   by_cases e:x=X
   ·have q1:(x !=X)=false:=by simp[e]
    have e2:y≠Y:=fun z=>both ⟨e,z⟩
    have q2:(y==Y)=false:=beq_eq_false_iff_ne.2 e2;have es:bg x y X Y true=(x,kN y Y):=if_neg (by simp[e])
    rw[q1,cond_false,q2,cond_false,mo y Y (by omega) e2]
    rw[es]at go;exact go
   ·have q1:(x !=X)=true:=bne_iff_ne.2 e
    have es:bg x y X Y true=(kN x X,y):=if_pos (.inl ⟨rfl,e⟩);rw[q1,cond_true,mo x X (by omega) e]
    rw[es]at go;exact go
  | false =>
   rw[cond_false]
   by_cases e:y=Y
   ·have e2:x≠X:=fun z=>both ⟨z,e⟩
    have q2:(y==Y)=true:=beq_iff_eq.2 e;have es:bg x y X Y false=(kN x X,y):=if_pos (.inr ⟨rfl,e⟩);rw[q2,cond_true,mo x X (by omega) e2]
    rw[es]at go;exact go
   ·have q2:(y==Y)=false:=beq_eq_false_iff_ne.2 e
    have es:bg x y X Y false=(x,kN y Y):=if_neg (by simp[e])
    rw[q2,cond_false,mo y Y (by omega) e]
    rw[es]at go;exact go
theorem sC{x y X Y:Int}{first d:Bool}{c:List Int}(h:¬(x=X∧y=Y)):hall (ig x y X Y) x y X Y first d c=hall (ig (bg x y X Y first).1 (bg x y X Y first).2 X Y) (bg x y X Y first).1 (bg x y X Y first).2 X Y first (dg (bg x y X Y first).1 (bg x y X Y first).2 d c).1 (dg (bg x y X Y first).1 (bg x y X Y first).2 d c).2:=by
 have hg:=rS first h
 rw[←hg]
 conv=>lhs;unfold hall
 rw[if_neg h]
theorem GS(x y X Y:Int)(first:Bool)(s fl:Int)(c:List Int)(hc:c.length=384)(hx:GX x)(hy:GY y)(hX:GX X)(hY:GY Y) :
  f35 x y X Y first s fl c=some (s,fl,hall (ig x y X Y) x y X Y first (dg x y false c).1 (dg x y false c).2,()):=by
 have loop:∀(x y:Int) (d:Bool) (c:List Int) (H:List Int),GX x→GY y→c.length=384→hall (ig x y X Y) x y X Y first (dg x y d c).1 (dg x y d c).2=H →
   OK (f35.L1 (first,d,s,fl,c,x,y,X,Y,())) fun z=>z=(s,fl,H,()):=by
  intro x y d c H hx hy hc hH;unfold f35.L1;refine OK.loop (fun j:Int×Int×Bool×List Int=>(first,j.2.2.1,s,fl,j.2.2.2,j.1,j.2.1,X,Y,())) (fun j=>GX j.1∧GY j.2.1∧j.2.2.2.length=384∧hall (ig j.1 j.2.1 X Y) j.1 j.2.1 X Y first (dg j.1 j.2.1 j.2.2.1 j.2.2.2).1 (dg j.1 j.2.1 j.2.2.1 j.2.2.2).2=H) (fun j=>ig j.1 j.2.1 X Y) (fun rec j hj ih=>?_) (x,y,d,c) rfl ⟨hx,hy,hc,hH⟩ (by dsimp only;unfold ig;unfold GX at *;unfold GY at *;omega)
  clear hH hx hy hc;obtain⟨x,y,d,c⟩:=j;obtain⟨hx,hy,hc,hH⟩:=hj;dsimp only at hx hy hc hH ih ⊢;have hx':=hx;have hy':=hy;unfold GX at hx';unfold GY at hy';rw[p8 x y (by omega) (by omega)]
  simp only[Option.bind_some];rw[ao (by omega),cond_true]
  refine OK.aD (R:=fun z=>z=Sum.inl (first,(dg x y d c).1,s,fl,(dg x y d c).2,x,y,X,Y,())) ?_ ?_
  ·unfold dg
   by_cases q:c.getD (y*24+x).toNat 0≠0
   ·have:(c.getD (y*24+x).toNat 0==0)=false:=beq_eq_false_iff_ne.2 q
    rw[this,if_pos q];exact OK.ret rfl
   ·have:(c.getD (y*24+x).toNat 0==0)=true:=by simpa using q
    rw[this,if_neg q,List.set_set];cases d<;>exact OK.ret rfl
  ·intro z e
   subst e;simp only[Sum.elim_inl];have hdl:(dg x y d c).2.length=384:=by rw[qG];exact hc
   generalize dg x y d c=p at *
   obtain⟨d',c'⟩:=p;dsimp only at *
   refine CN rec _ first d' s fl x y X Y c' hx hy hX hY (fun both=>?_) (fun both=>?_)
   ·rw[←hH,nq _ _ _ _ _ _ _ both]
   ·have hg:=rS first both
    unfold GX at hX;unfold GY at hY;have hin:=qO first both (x0:=0) (x1:=23) (y0:=0) (y1:=15) (by omega) (by omega) (by omega) (by omega)
    rw[sC both]at hH;exact ih ((bg x y X Y first).1,(bg x y X Y first).2,d',c') ⟨by dsimp only;unfold GX;omega,by dsimp only;unfold GY;omega,hdl,hH⟩ (by dsimp only;omega) _ rfl
 refine OK.eq ?_;unfold f35;have hx':=hx;have hy':=hy;unfold GX at hx';unfold GY at hy';rw[p8 x y (by omega) (by omega)]
 simp only[Option.bind_some];rw[ao (by omega),cond_true]
 refine OK.aD (R:=fun z=>z=Sum.inl (first,(dg x y false c).1,s,fl,(dg x y false c).2,x,y,X,Y,())) ?_ ?_
 ·unfold dg
  by_cases q:c.getD (y*24+x).toNat 0≠0
  ·have:(c.getD (y*24+x).toNat 0==0)=false:=beq_eq_false_iff_ne.2 q
   rw[this,if_pos q];exact OK.ret rfl
  ·have:(c.getD (y*24+x).toNat 0==0)=true:=by simpa using q
   rw[this,if_neg q,List.set_set];exact OK.ret rfl
 ·intro z e
  subst e;simp only[Sum.elim_inl];have hdl:(dg x y false c).2.length=384:=by rw[qG];exact hc
  generalize dg x y false c=p at *
  obtain⟨d',c'⟩:=p;dsimp only at *
  refine CN f35.L1 _ first d' s fl x y X Y c' hx hy hX hY (fun both=>?_) (fun both=>?_)
  ·rw[nq _ _ _ _ _ _ _ both]
  ·unfold GX at hX
   unfold GY at hY;have hin:=qO first both (x0:=0) (x1:=23) (y0:=0) (y1:=15) (by omega) (by omega) (by omega) (by omega)
   exact loop _ _ d' c' _ (by unfold GX;omega) (by unfold GY;omega) hdl (sC both).symm
theorem GZ(l:List Int)(m:Nat)(hm:m<l.length)(hl:l.length≤100000)(h:∀j:Nat,j<l.length→Field.rd l j≤Field.rd l m):f72 l=some (Field.rd l m,()):=by
 refine OK.eq ?_;unfold f72 f72.L1;rw[af,if_neg (by omega),ao (by omega),cond_true]
 refine OK.loop (fun j:Nat×Int=>(l,j.2,(j.1:Int),())) (fun j=>j.1≤l.length∧(∃k:Nat,k<j.1∧j.2=Field.rd l k)∧∀k:Nat,k<j.1→Field.rd l k≤j.2) (fun j=>l.length-j.1) (fun rec j hj ih=>?_) (1,l.getD 0 0) rfl ⟨by dsimp only;omega,⟨0,Nat.one_pos,rfl⟩,fun k hk=>by
  have:k=0:=by dsimp only at hk;omega
  subst this;exact Int.le_refl _⟩ (by dsimp only;omega)
 obtain⟨i,v⟩:=j;obtain⟨hi,⟨k,hk,hv⟩,hmax⟩:=hj;dsimp only at hi hk hv hmax ih ⊢;rw[af]
 by_cases c:(i:Int)<l.length
 ·rw[if_pos c,ao (by omega),cond_true,wr (by omega),gw,Int.toNat_natCast]
  have er:l.getD i 0=Field.rd l i:=rfl;rw[er];refine ih (i+1,max v (Field.rd l i)) ⟨by dsimp only;omega,?_,fun j hj=>?_⟩ (by dsimp only;omega) _ rfl
  ·dsimp only
   by_cases g:v≤Field.rd l i
   ·exact⟨i,by omega,by omega⟩
   ·exact⟨k,by omega,by omega⟩
  ·dsimp only at hj ⊢
   by_cases e:j=i
   ·subst e;omega
   ·have:=hmax j (by omega);omega
 ·rw[if_neg c]
  refine OK.ret ?_;have h1:=hmax m (by omega)
  have h2:=h k (by omega)
  have:v=Field.rd l m:=by omega
  rw[this]
theorem index_g(l:List Int)(v:Int)(hl:l.length≤100000):f73 l v=some (match (List.range l.length).find? fun i:Nat=>v==l.getD i 0 with | some i=>(i:Int) | none=>-1,()):=by
 unfold f73 f73.L1;refine(it_find (x:=(l,v,(l.length:Int),0,())) (fun i:Nat=>v==l.getD i 0) l.length (fun i:Nat=>(l,v,(l.length:Int),(i:Int),())) (fun i=>some ((i:Int),())) (some (-1,())) (fun rec i hi=>?_) (by omega) rfl).trans ?_
 rotate_left
 ·cases (List.range l.length).find? fun i:Nat=>v==l.getD i 0<;>rfl
 ·dsimp only
  rw[af]
  by_cases c:i<l.length
  ·rw[if_pos c,if_pos (by omega),ao (by omega),cond_true,wr (by omega),Int.toNat_natCast,cH]
   rfl
  ·rw[if_neg c,if_neg (by omega)]
theorem xX(l:List Int)(v:Int)(hl:l.length≤100000):f129 l v=some (l.contains v,()):=by
 unfold f129;rw[index_g l v hl];simp only[Option.bind_some];cases e:(List.range l.length).find? fun i:Nat=>v==l.getD i 0 with
 | none =>
  have:l.contains v=false:=by
   rw[List.contains_eq_mem,decide_eq_false_iff_not];intro hm;obtain⟨i,hi,rfl⟩:=List.getElem_of_mem hm;have:=List.find?_range_eq_none.1 e i hi;rw[List.getD_eq_getElem?_getD,List.getElem?_eq_getElem hi]at this;simp at this
  rw[this];rfl
 | some i =>
  obtain⟨h1,h2,_⟩:=List.find?_range_eq_some.1 e;have hi:=List.mem_range.1 h2;have:l.contains v=true:=by
   rw[List.contains_eq_mem,decide_eq_true_eq];have:=beq_iff_eq.1 h1;rw[List.getD_eq_getElem?_getD,List.getElem?_eq_getElem hi]at this;rw[this];exact List.getElem_mem hi
  rw[this]
  simp only
  have:decide ((i:Int)≥0)=true:=decide_eq_true (by omega)
  rw[this]
end Go.Proofs.YthdgahpomhnidaaGreat.Fl
namespace Go.Proofs.YthdgahpomhnidaaGreat.Fl
open Go Mx Pc Run Field Gen GenL
theorem DE(c:List Int)(hc:CB c)(u:Int):f14 c [] [u]=some (sA c u,()):=by
 obtain⟨⟨y,z⟩,e,h⟩:=iK c hc [] [u] (by simp)
 have:y=sA c u:=kK h (uQ c hc u).2;rw[e,this]
theorem AK(s fl:Int):(List.range (aF s fl).length).find? (fun i:Nat=>Field.rd (aF s fl) (az s fl)==(aF s fl).getD i 0)=some (az s fl).toNat:=by
 obtain⟨i,hi,e,h1,h2,h3⟩:=qW s fl;have hl:=(eI s fl).len;rw[List.find?_range_eq_some,e,Int.toNat_natCast];refine⟨beq_iff_eq.2 rfl,List.mem_range.2 (by omega),fun j hj=>?_⟩
 have:=h2 j hj;have e1:(aF s fl).getD j 0=Field.rd (aF s fl) (j:Int):=rfl;have:(Field.rd (aF s fl) (i:Int)==(aF s fl).getD j 0)=false:=by rw[beq_eq_false_iff_ne,e1];omega
 rw[this];rfl
theorem Cu(s fl:Int):f37 (mx s fl 0) (my s fl 0) s fl (cv s fl 5)=some (s,fl,cells s fl,aF s fl,()):=by
 have b:=jB s fl 0;obtain⟨D,hh,_⟩:=dU s fl 5;have hl:=hh.len;have hu:=cG s fl;unfold GC at hu;have eu:my s fl 0*24+mx s fl 0=aG s fl:=rfl;have eU:(cv s fl 5).set (aG s fl).toNat 3=bA s fl:=rfl;have eD:sA (bA s fl) (aG s fl)=aF s fl:=rfl;have eD':(bA s fl).set (az s fl).toNat 4=cellsD s fl:=rfl;obtain⟨i,hi,ei,h1,h2,h3⟩:=qW s fl;have hfl:=(eI s fl).len;have hul:=jG s fl;have hg:=lO s fl;unfold GC at hg;have hlt:=zk s fl;have hfd:=lT s fl;unfold f37;rw[p8 _ _ (by omega) (by omega),eu]
 simp only[Option.bind_some];rw[ao (by omega),cond_true,eU,DE _ (nu s fl),eD]
 simp only[Option.bind_some];rw[GZ (aF s fl) (az s fl).toNat (by omega) (by omega) (fun j hj=>by
  have:=h3 j (by omega)
  rw[show (((az s fl).toNat:Nat):Int)=az s fl by omega,ei]
  exact this)]
 simp only[Option.bind_some];rw[show (((az s fl).toNat:Nat):Int)=az s fl by omega,index_g _ _ (by omega),AK]
 simp only[Option.bind_some];rw[ao (by omega),cond_true,Int.toNat_natCast,eD',ky]
 dsimp only;have d:=ct s fl 6 0 2 (by decide) (by decide)
 rw[d.1];simp only[Option.bind_some];have e0:cD s fl=if dv s fl 6 0 2=0 then (List.range 384).find? (bO (cellsD s fl) (aF s fl) (az s fl)) else none:=rfl
 by_cases z:dv s fl 6 0 2=0
 ·have q:(dv s fl 6 0 2 !=0)=false:=by simp[z]
  have ec:cells s fl=match (List.range 384).find? (bO (cellsD s fl) (aF s fl) (az s fl)) with | some i=>(cellsD s fl).set i 5 | none=>cellsD s fl:=by
   unfold cells;rw[e0,if_pos z]
   try rfl
  have hdl:=iu s fl;rw[q,cond_false,ec];unfold f37.L1;refine(it_find (x:=(Field.rd (aF s fl) (az s fl),((aF s fl).length:Int),0,s,fl,cellsD s fl,aF s fl,())) (bO (cellsD s fl) (aF s fl) (az s fl)) 384 (fun i:Nat=>(Field.rd (aF s fl) (az s fl),((aF s fl).length:Int),(i:Int),s,fl,cellsD s fl,aF s fl,())) (fun i=>some (s,fl,(cellsD s fl).set i 5,aF s fl,())) (some (s,fl,cellsD s fl,aF s fl,())) (fun rec i hi=>?_) (by decide) rfl).trans ?_
  rotate_left
  ·cases (List.range 384).find? (bO (cellsD s fl) (aF s fl) (az s fl))<;>rfl
  ·dsimp only
   rw[af]
   by_cases c:i<384
   ·rw[if_pos c,if_pos (by omega),ao (i:=(i:Int)) (n:=(aF s fl).length) (by omega),ao (i:=(i:Int)) (n:=(cellsD s fl).length) (by omega),wr (x:=(i:Int)+1) (by omega),Int.tdiv_eq_ediv_of_nonneg (by omega),wr (by omega),Int.toNat_natCast]
    simp only[cond_true];unfold bO;cases (aF s fl).getD i 0==Field.rd (aF s fl) (az s fl)/2<;>cases (cellsD s fl).getD i 0==1<;>rfl
   ·rw[if_neg c,if_neg (by omega)]
 ·have q:(dv s fl 6 0 2 !=0)=true:=bne_iff_ne.2 z
  have ec:cells s fl=cellsD s fl:=by
   unfold cells;rw[e0,if_neg z]
  rw[q,cond_true,ec]
theorem zK(m:(List Int×List ag×List ak)×Int×Int×List Int)(az:Int)(taken:List Int)(hc:m.1.1.length=384)(hf:m.2.2.2.length=384)(ht:taken.length≤1000) :
  f74 m az taken=some (aP m.1.1 m.2.2.2 az taken,()):=by
 obtain⟨⟨c,es,is⟩,s,fl,f⟩:=m;dsimp only at hc hf ⊢;refine OK.eq ?_;unfold f74 f74.L1;refine OK.loop (fun j:Nat×List Int=>(((c,es,is),s,fl,f),az,taken,f,(f.length:Int),(j.1:Int),j.2,())) (fun j=>j.1≤384∧j.2=((List.range j.1).filter fun i:Nat=>c.getD i 0==1&&decide (az≤f.getD i 0)&&!taken.contains (i:Int)).map fun i:Nat=>(i:Int)) (fun j=>384-j.1) (fun rec j hj ih=>?_) (0,[]) rfl ⟨Nat.zero_le _,rfl⟩ (by dsimp only;decide)
 obtain⟨i,l⟩:=j;obtain⟨hi,hl⟩:=hj;dsimp only at hi hl ih ⊢;rw[af]
 by_cases c4:i<384
 ·have wj:IntKind.wrap .i64 ((i:Int)+1)=((i+1:Nat):Int):=by rw[wr (by omega)];omega
  have hll:l.length≤384:=by
   rw[hl,List.length_map];have:=List.length_filter_le (fun i:Nat=>c.getD i 0==1&&decide (az≤f.getD i 0)&&!taken.contains (i:Int)) (List.range i)
   rw[List.length_range]at this;omega
  rw[if_pos (by omega),ao (n:=f.length) (by omega),ao (n:=c.length) (by omega),cond_true,cond_true,wj,Int.toNat_natCast,xX _ _ (by omega)]
  simp only[Option.bind_some];have skip:(c.getD i 0==1&&decide (az≤f.getD i 0)&&!taken.contains (i:Int))=false→OK (rec (((c,es,is),s,fl,f),az,taken,f,(f.length:Int),((i+1:Nat):Int),l,())) _:=fun hp=>ih (i+1,l) ⟨by dsimp only;omega,by
   dsimp only;rw[List.range_succ,List.filter_append,List.filter_cons,hp];simpa using hl⟩ (by dsimp only;omega) _ rfl
  refine OK.bif (fun h1=>?_) (fun h1=>skip (by rw[h1];rfl))
  refine OK.bif (fun h2=>?_) (fun h2=>skip (by
   have:decide (az≤f.getD i 0)=false:=h2;rw[this,Bool.and_false];rfl))
  refine OK.bif (fun h3=>?_) (fun h3=>skip (by rw[h3,Bool.and_false]))
  rw[decide_eq_true (by simp[aB];omega),cond_true]
  refine ih (i+1,l++[(i:Int)]) ⟨by dsimp only;omega,?_⟩ (by dsimp only;omega) _ rfl
  have h2':decide (az≤f.getD i 0)=true:=h2;dsimp only;rw[List.range_succ,List.filter_append,List.filter_cons,h1,h2',h3,List.map_append,hl];rfl
 ·have ei:i=384:=by omega
  subst ei;rw[if_neg (by omega)]
  exact OK.ret (by rw[hl];rfl)
theorem DW(s fl k fF:Int)(y:Int×Int×Int×Int×Int×Int×Int×Int×Int×Int×Int×Unit)(h:1≤fl∧fl≤10000)(e:f75 (2+dv s fl (16+k) 1 (min (fl+1) 3))=some y) :
  (y.1,y.2.1,y.2.2.1,fF%24,fF/24,y.2.2.2.2.2.1,y.2.2.2.2.2.2.1,y.2.2.2.2.2.2.2.1,y.2.2.2.2.2.2.2.2.1,y.2.2.2.2.2.2.2.2.2.1,y.2.2.2.2.2.2.2.2.2.2.1)=entAt s fl k fF:=by
 have d:=(ct s fl (16+k) 1 (min (fl+1) 3) (by omega) (by omega)).2
 unfold entAt;generalize dv s fl (16+k) 1 (min (fl+1) 3)=v at *
 have:v=0∨v=1∨v=2:=by omega
 rcases this with rfl | rfl | rfl<;>(cases e;rfl)
theorem wg(s fl k:Int)(h:1≤fl∧fl≤10000):∃y,f75 (2+dv s fl (16+k) 1 (min (fl+1) 3))=some y:=by
 have d:=(ct s fl (16+k) 1 (min (fl+1) 3) (by omega) (by omega)).2
 generalize dv s fl (16+k) 1 (min (fl+1) 3)=v at *
 have:v=0∨v=1∨v=2:=by omega
 rcases this with rfl | rfl | rfl<;>exact⟨_,rfl⟩
theorem FV(s fl:Int)(c f:List Int)(hc:c.length=384)(hf:f.length=384)(h1:1≤fl)(h2:fl≤900) :
  f38 s fl c f=some (s,fl,c,f,mons s fl c f (fl+2).toNat 0 [] [],()):=by
 refine OK.eq ?_;unfold f38 f38.L1;rw[wr (x:=fl+2) (by omega)]
 generalize hM:mons s fl c f (fl+2).toNat 0 [] []=M;refine OK.loop (fun j:Nat×List ag×List Int=>(fl+2,(j.1:Int),s,fl,c,f,j.2.2,j.2.1,())) (fun j=>(j.1:Int)≤fl+2∧j.2.2.length≤j.1∧j.2.1.length≤j.1∧mons s fl c f (fl+2-j.1).toNat j.1 j.2.2 j.2.1=M) (fun j=>(fl+2).toNat-j.1) (fun rec j hj ih=>?_) (0,[],[]) rfl ⟨by dsimp only;omega,Nat.zero_le _,Nat.zero_le _,by dsimp only;rw[show fl+2-((0:Nat):Int)=fl+2 by omega];exact hM⟩ (by dsimp only;omega)
 clear hM;obtain⟨i,es,taken⟩:=j;obtain⟨hi,hu,he,hM⟩:=hj;dsimp only at hi hu he hM ih ⊢;rw[af]
 by_cases q:(i:Int)<fl+2
 ·obtain⟨n,en⟩:∃n,(fl+2-(i:Int)).toNat=n+1:=⟨(fl+1-i).toNat,by omega⟩
  rw[en]at hM;unfold mons at hM;rw[if_pos q,wr (x:=7+(i:Int)) (by omega),wr (x:=16+(i:Int)) (by omega),wr (x:=fl+1) (by omega),zK _ _ _ hc hf (by omega)]
  simp only[Option.bind_some];have hlen:=kr c f 4 taken
  by_cases h0:aP c f 4 taken=[]
  ·rw[if_pos h0]at hM
   rw[h0];subst hM;exact OK.ret rfl
  ·have hm:=g8 (lH s fl c f 4 (7+i) taken h0)
   have hl1:1≤(aP c f 4 taken).length:=by
    cases e:aP c f 4 taken with
    | nil=>exact absurd e h0
    | cons _ _=>simp
   rw[if_neg h0]at hM;have d0:=ct s fl (7+(i:Int)) 0 (aP c f 4 taken).length (by omega) (by omega)
   have d:=ct s fl (16+(i:Int)) 1 (min (fl+1) 3) (by omega) (by omega)
   have qz:(((aP c f 4 taken).length:Int)==0)=false:=by rw[beq_eq_false_iff_ne];omega
   rw[qz,cond_false,ky,ky,br];dsimp only;rw[d0.1];simp only[Option.bind_some];rw[ao d0.2,cond_true,decide_eq_true (by simp[aB];omega),cond_true,d.1]
   simp only[Option.bind_some];rw[wr (x:=2+dv s fl (16+(i:Int)) 1 (min (fl+1) 3)) (by omega)]
   obtain⟨y,ey⟩:=wg s fl i ⟨h1,by omega⟩
   rw[ey];simp only[Option.bind_some];have ep:(aP c f 4 taken).getD (dv s fl (7+(i:Int)) 0 (aP c f 4 taken).length).toNat 0=pk s fl c f 4 (7+i) taken:=rfl;rw[ep]at hM ⊢;rw[decide_eq_true (by simp[aB];omega),cond_true,wr (x:=(i:Int)+1) (by omega),Int.tmod_eq_emod_of_nonneg hm.1,Int.tdiv_eq_ediv_of_nonneg hm.1,wr (by omega)]
   have es':=DW s fl i (pk s fl c f 4 (7+i) taken) y ⟨h1,by omega⟩ ey
   rw[es'];refine ih (i+1,es++[entAt s fl i (pk s fl c f 4 (7+i) taken)],taken++[pk s fl c f 4 (7+i) taken]) ⟨by dsimp only;omega,by dsimp only;simp;omega,by dsimp only;simp;omega,?_⟩ (by dsimp only;omega) _ rfl
   dsimp only;have:(fl+2-((i+1:Nat):Int)).toNat=n:=by omega
   rw[this];exact hM
 ·have:(fl+2-(i:Int)).toNat=0:=by omega
  rw[this]at hM;rw[if_neg q];unfold mons at hM;subst hM;exact OK.ret rfl
def gi(c:List Int)(v:Int):Int:=match (List.range 384).find? fun i:Nat=>c.getD i 0==v with | some i=>(i:Int) | none=>-1
theorem vL(l:List Int)(hl:∀i,0≤l.getD i 0∧l.getD i 0<256)(v:Int)(hv:0≤v∧v<256):fD l v=match (List.range l.length).find? fun i:Nat=>l.getD i 0==v with | some i=>(i:Int) | none=>-1:=by
 have hs:(ByteArray.mk (Go.Lib.bytesOf l).toArray).size=l.length:=by
  show (Go.Lib.bytesOf l).toArray.size=_;simp[Go.Lib.bytesOf]
 have hp:∀i,i<l.length→((ByteArray.mk (Go.Lib.bytesOf l).toArray)[i]! == v.toNat.toUInt8)=(l.getD i 0==v):=by
  intro i hi;have e:(ByteArray.mk (Go.Lib.bytesOf l).toArray)[i]! = UInt8.ofNat (l.getD i 0).toNat:=by
   rw[getElem!_pos _ i (by rw[hs];exact hi)]
   show (Go.Lib.bytesOf l).toArray[i]'_=_;simp[Go.Lib.bytesOf,List.getD_eq_getElem?_getD,List.getElem?_eq_getElem hi]
  have b:=hl i;rw[e]
  by_cases q:l.getD i 0=v
  ·rw[q,beq_self_eq_true,beq_self_eq_true]
  ·rw[beq_eq_false_iff_ne.2 q,beq_eq_false_iff_ne]
   intro z;have z2:=congrArg UInt8.toNat z;have a1:(UInt8.ofNat (l.getD i 0).toNat).toNat=(l.getD i 0).toNat:=UInt8.toNat_ofNat_of_lt' (by show _<256;omega)
   have a2:(v.toNat.toUInt8).toNat=v.toNat:=UInt8.toNat_ofNat_of_lt' (by show _<256;omega)
   rw[a1,a2]at z2;omega
 have main:∀(L:List Nat),(∀i∈L,i<l.length)→L.find? (fun i=>(ByteArray.mk (Go.Lib.bytesOf l).toArray)[i]! == v.toNat.toUInt8)=L.find? fun i:Nat=>l.getD i 0==v:=by
  intro L
  induction L with
  | nil=>intro _;rfl
  | cons a L ih =>
   intro h;rw[List.find?_cons,List.find?_cons,hp a (h a List.mem_cons_self),ih fun i hi=>h i (List.mem_cons_of_mem _ hi)]
 unfold fD;rw[hs,main _ fun i hi=>List.mem_range.1 hi]
 rfl
theorem qV(c:List Int)(hc:CB c)(hl:c.length=384)(v:Int)(hv:0≤v∧v≤255):f13 c v=some (gi c v,()):=by
 unfold f13;have e:Int.toNat (aX (c.length:Int) 384)=384:=by rw[br];omega
 have e2:IntKind.wrap .u8 v=v:=by
  have:IntKind.wrap .u8 v=v%256:=by simp[IntKind.wrap,IntKind.bits,IntKind.signed]
  omega
 rw[af,if_neg (by omega),af,if_neg (by omega),decide_eq_true (by rw[br];omega),cond_true,e,e2,List.drop_zero,List.take_of_length_le (by omega)]
 have eF:f40 c v=some (fD c v,()):=rfl;rw[eF];simp only[Option.bind_some];rw[vL c hc v (by omega),hl]
 rfl
theorem uc(c:List Int)(hc:CB c)(hl:c.length=384)(v:Int):f90 c v=some (gi c v,()):=by
 unfold f90 f90.L1 gi;refine(it_find (x:=(c,v,0,())) (fun i:Nat=>c.getD i 0==v) 384 (fun i:Nat=>(c,v,(i:Int),())) (fun i=>some ((i:Int),())) (some (-1,())) (fun rec i hi=>?_) (by decide) rfl).trans ?_
 rotate_left
 ·cases (List.range 384).find? fun i:Nat=>c.getD i 0==v<;>rfl
 ·dsimp only
  rw[af,af]
  by_cases q:i<384
  ·have b:=hc i
   rw[if_pos q,if_pos (by omega),if_pos (by omega),ao (by omega),cond_true,wr (x:=(i:Int)+1) (by omega),Int.toNat_natCast,wr (by omega),cH]
   rfl
  ·rw[if_neg q,if_neg (by omega)]
theorem reach(s fl:Int)(h1:1≤fl)(h2:fl≤10000):(∀n,GC n→Wk (cells s fl) n→ca (cells s fl) (aG s fl) n)∧∀n,GC n→Wk (bA s fl) n→0≤Field.rd (aF s fl) n:=by
 obtain⟨z,e,u,hu,hG⟩:=DL s fl (by omega) h2
 rw[pE s fl h1 h2]at e;cases e;have all:∀n,GC n→Wk (cells s fl) n→ca (cells s fl) (aG s fl) n:=fun n hn hw =>
  (hG.all _ (cG s fl) ((iU s fl _).2 (tD s fl))).symm.trans (hG.all n hn hw)
 refine⟨all,fun n hn hw=>?_⟩
 exact qf (eI s fl) ((all n hn ((iU s fl n).2 hw)).mono fun m _ h=>(iU s fl m).1 h)
theorem yV(s fl:Int)(h1:1≤fl)(h2:fl≤10000)(taken:List Int):aP (cells s fl) (aF s fl) (-1) taken=aP (cells s fl) (aF s fl) 0 taken:=by
 unfold aP
 congr 1
 refine List.filter_congr fun i hi=>?_
 have hi':=List.mem_range.1 hi;cases e:(cells s fl).getD i 0==1 with
 | false=>rfl
 | true =>
  have ev:=beq_iff_eq.1 e;have hw:Wk (cells s fl) i:=by
   rw[gF (dq s fl _)];rw[Int.toNat_natCast,ev];decide
  have:=(reach s fl h1 h2).2 i ⟨by omega,by omega⟩ ((iU s fl i).1 hw)
  have:0≤(aF s fl).getD i 0:=this;rw[decide_eq_true (show -1≤(aF s fl).getD i 0 by omega),decide_eq_true this]
theorem yW(s fl:Int):gi (cells s fl) 5=match cD s fl with | some i=>(i:Int) | none=>-1:=by
 unfold gi;cases h:cD s fl with
 | some i =>
  have:(List.range 384).find? (fun j:Nat=>(cells s fl).getD j 0==5)=some i:=List.find?_range_eq_some.2 ⟨beq_iff_eq.2 ((mA s fl i).2 h),List.mem_range.2 (lq s fl h).1,fun j hj=>by
   have:((cells s fl).getD j 0==5)=false:=by
    rw[beq_eq_false_iff_ne];intro e;have:=(mA s fl j).1 e;rw[h]at this;cases this;omega
   rw[this];rfl⟩
  rw[this]
 | none =>
  have:(List.range 384).find? (fun j:Nat=>(cells s fl).getD j 0==5)=none:=List.find?_range_eq_none.2 fun j hj=>by
   have:((cells s fl).getD j 0==5)=false:=by
    rw[beq_eq_false_iff_ne];intro e;have:=(mA s fl j).1 e;rw[h]at this;cases this
   rw[this];rfl
  rw[this]
theorem DJ(s fl:Int)(c f:List Int)(es:List ag)(l:List ak)(hl:l.length≤100) :
  f39.L1 (0,s,fl,c,es,f,l,())=some (s,fl,c,es,f,l++[cN s fl 0,cN s fl 1,cN s fl 2],()):=by
 refine OK.eq ?_;unfold f39.L1;refine OK.loop (fun j:Nat×List ak=>((j.1:Int),s,fl,c,es,f,j.2,())) (fun j=>j.1≤3∧j.2=l++[cN s fl 0,cN s fl 1,cN s fl 2].take j.1) (fun j=>3-j.1) (fun rec j hj ih=>?_) (0,l) rfl ⟨Nat.zero_le _,by simp⟩ (by dsimp only;decide)
 obtain⟨i,l'⟩:=j;obtain⟨hi,he⟩:=hj;dsimp only at hi he ih ⊢;rw[af]
 by_cases q:(i:Int)<3
 ·have d:=ct s fl (50+(i:Int)) 1 3 (by decide) (by decide)
  have hl':l'.length≤103:=by subst he;simp;omega
  rw[if_pos q,wr (x:=50+(i:Int)) (by omega),ky]
  dsimp only;rw[d.1];simp only[Option.bind_some];rw[decide_eq_true (by simp[aB];omega),cond_true,wr (x:=(i:Int)+1) (by omega),wr (x:=1+dv s fl (50+(i:Int)) 1 3) (by omega)]
  refine ih (i+1,l'++[cN s fl i]) ⟨by dsimp only;omega,?_⟩ (by dsimp only;omega) _ rfl
  dsimp only;rw[he,List.append_assoc];have:i=0∨i=1∨i=2:=by omega
  rcases this with rfl | rfl | rfl<;>rfl
 ·have:i=3:=by omega
  subst this;rw[if_neg q];subst he;exact OK.ret rfl
theorem EZ(s fl:Int)(es:List ag)(h1:1≤fl)(h2:fl≤900) :
  f39 s fl (cells s fl) es (aF s fl)=some (s,fl,cells s fl,es,aF s fl,its s fl (cells s fl) (aF s fl) 4 0 [] []++fJ s fl,()):=by
 have hc:=bR s fl;have hf:=(eI s fl).len;have low:=yV s fl h1 (by omega)
 have hfind:=qV (cells s fl) (bX s fl) hc 5 (by decide)
 have hshop:=yW s fl;have ew:fJ s fl=if (cD s fl).isSome then [cN s fl 0,cN s fl 1,cN s fl 2] else []:=rfl
 generalize cells s fl=c at *
 generalize aF s fl=f at *
 refine OK.eq ?_;unfold f39 f39.L2;generalize hM:its s fl c f 4 0 [] []=M;refine OK.loop (fun j:Nat×List ak×List Int=>((j.1:Int),s,fl,c,es,f,j.2.2,j.2.1,())) (fun j=>j.1≤4∧j.2.2.length≤j.1∧j.2.1.length≤j.1∧its s fl c f (4-j.1) j.1 j.2.2 j.2.1=M) (fun j=>4-j.1) (fun rec j hj ih=>?_) (0,[],[]) rfl ⟨by dsimp only;decide,Nat.zero_le _,Nat.zero_le _,hM⟩ (by dsimp only;decide)
 clear hM;obtain⟨i,l,taken⟩:=j;obtain⟨hi,hu,he,hM⟩:=hj;dsimp only at hi hu he hM ih ⊢;rw[af]
 by_cases q:(i:Int)<4
 ·obtain⟨n,en⟩:∃n,4-i=n+1:=⟨3-i,by omega⟩
  rw[en]at hM;unfold its at hM;rw[if_pos q,wr (x:=(i:Int)+1) (by omega),wr (x:=40+(i:Int)) (by omega),zK _ _ _ hc hf (by omega)]
  dsimp only;rw[low];simp only[Option.bind_some];have hlen:=kr c f 0 taken
  by_cases h0:aP c f 0 taken=[]
  ·rw[if_pos h0]at hM
   rw[h0];refine ih (i+1,l,taken) ⟨by dsimp only;omega,by dsimp only;omega,by dsimp only;omega,?_⟩ (by dsimp only;omega) _ rfl
   dsimp only;have:4-(i+1)=n:=by omega
   rw[this];exact hM
  ·have hm:=g8 (lH s fl c f 0 (40+i) taken h0)
   have hl1:1≤(aP c f 0 taken).length:=by
    cases e:aP c f 0 taken with
    | nil=>exact absurd e h0
    | cons _ _=>simp
   rw[if_neg h0]at hM;have d0:=ct s fl (40+(i:Int)) 0 (aP c f 0 taken).length (by omega) (by omega)
   have d:=ct s fl (40+(i:Int)) 1 4 (by decide) (by decide)
   have qz:(((aP c f 0 taken).length:Int)==0)=false:=by rw[beq_eq_false_iff_ne];omega
   rw[qz,cond_false,ky,ky];dsimp only;rw[d0.1];simp only[Option.bind_some];rw[ao d0.2,cond_true,decide_eq_true (by simp[aB];omega),cond_true,d.1]
   simp only[Option.bind_some];have ep:(aP c f 0 taken).getD (dv s fl (40+(i:Int)) 0 (aP c f 0 taken).length).toNat 0=pk s fl c f 0 (40+i) taken:=rfl;rw[ep]at hM ⊢;rw[decide_eq_true (by simp[aB];omega),cond_true,wr (x:=1+dv s fl (40+(i:Int)) 1 4) (by omega),Int.tmod_eq_emod_of_nonneg hm.1,Int.tdiv_eq_ediv_of_nonneg hm.1,wr (x:=pk s fl c f 0 (40+i) taken/24) (by omega)]
   refine ih (i+1,l++[(1+dv s fl (40+(i:Int)) 1 4,1,pk s fl c f 0 (40+i) taken%24,pk s fl c f 0 (40+i) taken/24)],taken++[pk s fl c f 0 (40+i) taken]) ⟨by dsimp only;omega,by dsimp only;simp;omega,by dsimp only;simp;omega,?_⟩ (by dsimp only;omega) _ rfl
   dsimp only;have:4-(i+1)=n:=by omega
   rw[this];exact hM
 ·have:4-i=0:=by omega
  rw[this]at hM;rw[if_neg q];unfold its at hM;subst hM;rw[hfind];simp only[Option.bind_some];rw[hshop,ew,af];cases h:cD s fl with
  | none =>
   rw[if_pos (by decide)]
   exact OK.ret (by simp)
  | some k =>
   rw[if_neg (by simp only;omega),DJ s fl c f es l (by omega)]
   exact OK.ret rfl
theorem xn(s fl:Int)(h1:1≤fl)(h2:fl≤3):f11 s fl=some (0,(floor s fl).1,(floor s fl).2.1,(floor s fl).2.2.1,()):=by
 unfold f11;rw[af,af,if_neg (by omega),if_neg (by omega)]
 have hallsL:∀t:dm,(∀j:Nat,j<6→[t.1,t.2.2.1,t.2.2.2.2.1,t.2.2.2.2.2.2.1,t.2.2.2.2.2.2.2.2.1,t.2.2.2.2.2.2.2.2.2.2.1].getD j 0=mx s fl j∧[t.2.1,t.2.2.2.1,t.2.2.2.2.2.1,t.2.2.2.2.2.2.2.1,t.2.2.2.2.2.2.2.2.2.1,t.2.2.2.2.2.2.2.2.2.2.2.1].getD j 0=my s fl j) →
   f11.L1 (1,s,fl,t.1,t.2.1,t.2.2.1,t.2.2.2.1,t.2.2.2.2.1,t.2.2.2.2.2.1,t.2.2.2.2.2.2.1,t.2.2.2.2.2.2.2.1,t.2.2.2.2.2.2.2.2.1,t.2.2.2.2.2.2.2.2.2.1,t.2.2.2.2.2.2.2.2.2.2.1,t.2.2.2.2.2.2.2.2.2.2.2.1,mb s fl,())=some (0,(floor s fl).1,(floor s fl).2.1,(floor s fl).2.2.1,()):=by
  intro t ht;refine OK.eq ?_;unfold f11.L1;refine OK.loop (fun j:Nat=>((j:Int)+1,s,fl,t.1,t.2.1,t.2.2.1,t.2.2.2.1,t.2.2.2.2.1,t.2.2.2.2.2.1,t.2.2.2.2.2.2.1,t.2.2.2.2.2.2.2.1,t.2.2.2.2.2.2.2.2.1,t.2.2.2.2.2.2.2.2.2.1,t.2.2.2.2.2.2.2.2.2.2.1,t.2.2.2.2.2.2.2.2.2.2.2.1,cv s fl j,())) (fun j=>j≤5) (fun j=>5-j) (fun rec i hi ih=>?_) 0 rfl (Nat.zero_le _) (by decide)
  dsimp only at hi ih ⊢;obtain⟨D,hh,_⟩:=dU s fl i;have hl:=hh.len;rw[af]
  by_cases q:(i:Int)+1<6
  ·have e:Int.toNat (IntKind.wrap .i64 ((i:Int)+1-1))=i:=by rw[wr (by omega)];omega
   have ir:ae (IntKind.wrap .i64 ((i:Int)+1-1)) 6=true:=ao (by rw[wr (by omega)];omega)
   have e':Int.toNat ((i:Int)+1)=i+1:=by omega
   have b0:=jB s fl i;have b1:=jB s fl ((i:Int)+1);have e0:=ht i (by omega)
   have e1:=ht (i+1) (by omega)
   rw[show ((i+1:Nat):Int)=(i:Int)+1 by omega]at e1
   have d:=ct s fl ((i:Int)+1) 4 2 (by decide) (by decide)
   rw[if_pos q,ir,ao (i:=(i:Int)+1) (n:=6) (by omega),cond_true,cond_true,e,e',ky,e0.1,e0.2,e1.1,e1.2]
   dsimp only;rw[d.1];simp only[Option.bind_some];rw[GS _ _ _ _ _ s fl _ hl (by unfold GX;omega) (by unfold GY;omega) (by unfold GX;omega) (by unfold GY;omega)]
   simp only[Option.bind_some];refine ih (i+1) (by omega) (by omega) _ ?_
   have eh:cv s fl (i+1)=jY s fl ((i:Int)+1) (cv s fl i):=by unfold cv;rw[List.range_succ,List.foldl_append];rfl
   rw[eh];unfold jY;have em:(i:Int)+1-1=i:=by omega
   rw[em,wr (by omega)]
   rfl
  ·have:i=5:=by omega
   subst this;have e0:=ht 0 (by decide)
   have ex:t.1=mx s fl 0:=e0.1;have ey:t.2.1=my s fl 0:=e0.2;rw[if_neg q,ex,ey,Cu];simp only[Option.bind_some];rw[FV s fl _ _ (bR s fl) (eI s fl).len h1 (by omega)]
   simp only[Option.bind_some];rw[EZ s fl _ h1 (by omega)]
   exact OK.ret rfl
 refine OK.eq ?_;unfold f11.L2;refine OK.loop (fun j:Nat×dm=>((j.1:Int),s,fl,j.2.1,j.2.2.1,j.2.2.2.1,j.2.2.2.2.1,j.2.2.2.2.2.1,j.2.2.2.2.2.2.1,j.2.2.2.2.2.2.2.1,j.2.2.2.2.2.2.2.2.1,j.2.2.2.2.2.2.2.2.2.1,j.2.2.2.2.2.2.2.2.2.2.1,j.2.2.2.2.2.2.2.2.2.2.2.1,j.2.2.2.2.2.2.2.2.2.2.2.2.1,(List.range j.1).foldl (fun c (i:Nat)=>iq s fl i c) (List.replicate 384 0),())) (fun j=>j.1≤6∧∀k:Nat,k<j.1→[j.2.1,j.2.2.2.1,j.2.2.2.2.2.1,j.2.2.2.2.2.2.2.1,j.2.2.2.2.2.2.2.2.2.1,j.2.2.2.2.2.2.2.2.2.2.2.1].getD k 0=mx s fl k∧[j.2.2.1,j.2.2.2.2.1,j.2.2.2.2.2.2.1,j.2.2.2.2.2.2.2.2.1,j.2.2.2.2.2.2.2.2.2.2.1,j.2.2.2.2.2.2.2.2.2.2.2.2.1].getD k 0=my s fl k) (fun j=>6-j.1) (fun rec j hj ih=>?_) (0,(0,0,0,0,0,0,0,0,0,0,0,0,())) rfl ⟨by dsimp only;decide,fun k hk=>absurd hk (Nat.not_lt_zero k)⟩ (by dsimp only;decide)
 obtain⟨i,t⟩:=j;obtain⟨hi,ht⟩:=hj;dsimp only at hi ht ih ⊢;rw[af]
 by_cases q:(i:Int)<6
 ·rw[if_pos q,Fs s fl i _ (jl s fl i).len]
  simp only[Option.bind_some];rw[ao (by omega),cond_true,wr (by omega),Int.toNat_natCast]
  have key:∀p:Nat,∀a b:Int,(if i=p then a else b)=if p=i then a else b:=fun p a b=>by
   by_cases e:i=p
   ·rw[if_pos e,if_pos e.symm]
   ·rw[if_neg e,if_neg (fun x=>e x.symm)]
  refine ih (i+1,(if i=0 then mx s fl i else t.1,if i=0 then my s fl i else t.2.1,if i=1 then mx s fl i else t.2.2.1,if i=1 then my s fl i else t.2.2.2.1,if i=2 then mx s fl i else t.2.2.2.2.1,if i=2 then my s fl i else t.2.2.2.2.2.1,if i=3 then mx s fl i else t.2.2.2.2.2.2.1,if i=3 then my s fl i else t.2.2.2.2.2.2.2.1,if i=4 then mx s fl i else t.2.2.2.2.2.2.2.2.1,if i=4 then my s fl i else t.2.2.2.2.2.2.2.2.2.1,if i=5 then mx s fl i else t.2.2.2.2.2.2.2.2.2.2.1,if i=5 then my s fl i else t.2.2.2.2.2.2.2.2.2.2.2.1,())) ⟨by dsimp only;omega,fun k hk=>?_⟩ (by dsimp only;omega) _ ?_
  ·dsimp only at hk ⊢
   by_cases e:k=i
   ·subst e
    match k,q with
    | 0,_=>exact⟨rfl,rfl⟩
    | 1,_=>exact⟨rfl,rfl⟩
    | 2,_=>exact⟨rfl,rfl⟩
    | 3,_=>exact⟨rfl,rfl⟩
    | 4,_=>exact⟨rfl,rfl⟩
    | 5,_=>exact⟨rfl,rfl⟩
   ·have:=ht k (by omega)
    match k,(show k<6 by omega) with
    | 0,_=>simp only[List.getD_cons_zero]at this ⊢;rw[if_neg (by omega),if_neg (by omega)];exact this
    | 1,_=>simp only[List.getD_cons_zero,List.getD_cons_succ]at this ⊢;rw[if_neg (by omega),if_neg (by omega)];exact this
    | 2,_=>simp only[List.getD_cons_zero,List.getD_cons_succ]at this ⊢;rw[if_neg (by omega),if_neg (by omega)];exact this
    | 3,_=>simp only[List.getD_cons_zero,List.getD_cons_succ]at this ⊢;rw[if_neg (by omega),if_neg (by omega)];exact this
    | 4,_=>simp only[List.getD_cons_zero,List.getD_cons_succ]at this ⊢;rw[if_neg (by omega),if_neg (by omega)];exact this
    | 5,_=>simp only[List.getD_cons_zero,List.getD_cons_succ]at this ⊢;rw[if_neg (by omega),if_neg (by omega)];exact this
  ·dsimp only
   rw[List.range_succ,List.foldl_append];rfl
 ·have:i=6:=by omega
  subst this;rw[if_neg q];have:=hallsL t fun j hj=>ht j hj
  show OK (f11.L1 (1,s,fl,t.1,t.2.1,t.2.2.1,t.2.2.2.1,t.2.2.2.2.1,t.2.2.2.2.2.1,t.2.2.2.2.2.2.1,t.2.2.2.2.2.2.2.1,t.2.2.2.2.2.2.2.2.1,t.2.2.2.2.2.2.2.2.2.1,t.2.2.2.2.2.2.2.2.2.2.1,t.2.2.2.2.2.2.2.2.2.2.2.1,mb s fl,())) _;rw[this];exact OK.ret rfl
end Go.Proofs.YthdgahpomhnidaaGreat.Fl
namespace Go.Proofs.YthdgahpomhnidaaGreat.Fl
open Go Mx Pc Run Field Gen GenL
theorem Ag{c:List Int}{v:Int}{k:Nat}(hk:k<384)(h:∀n:Nat,c.getD n 0=v↔n=k):gi c v=k:=by
 unfold gi;have:(List.range 384).find? (fun j:Nat=>c.getD j 0==v)=some k:=List.find?_range_eq_some.2 ⟨beq_iff_eq.2 ((h k).2 rfl),List.mem_range.2 hk,fun j hj=>by
  have:(c.getD j 0==v)=false:=by
   rw[beq_eq_false_iff_ne];intro e;have:=(h j).1 e;omega
  rw[this];rfl⟩
 rw[this]
theorem rG(s fl:Int):gi (cells s fl) 3=aG s fl:=by
 have g:=cG s fl;unfold GC at g;rw[Ag (k:=(aG s fl).toNat) (by omega) (uB s fl)]
 omega
abbrev H4:ag:=Run.zE
abbrev Gm:ak:=(0,0,0,0)
structure MI (s fl:Int) (c f:List Int) (L:List Int) (es:List ag):Prop where
 len:es.length=L.length
 one:L.Nodup
 fF:∀i,i<L.length→∃k,es.getD i H4=entAt s fl k (L.getD i 0)
 bG:∀n∈L,0≤n∧n<384∧c.getD n.toNat 0=1∧4≤f.getD n.toNat 0
theorem kD{A:Type}(l:List A)(x d:A)(i:Nat):(l++[x]).getD i d=if i=l.length then x else l.getD i d:=by
 rw[List.getD_eq_getElem?_getD,List.getD_eq_getElem?_getD]
 by_cases h:i=l.length
 ·subst h
  rw[List.getElem?_append_right (Nat.le_refl _),if_pos rfl];simp
 ·rw[if_neg h]
  by_cases h2:i<l.length
  ·rw[List.getElem?_append_left h2]
  ·rw[List.getElem?_eq_none (by simp;omega),List.getElem?_eq_none (by omega)]
theorem qK{l:List Int}{x:Int}(h:l.Nodup)(hx:x∉l):(l++[x]).Nodup:=by
 rw[List.nodup_append];exact⟨h,by simp,fun a ha b hb=>by
  have:b=x:=by simpa using hb
  intro e;rw[this]at e;exact hx (e▸ha)⟩
theorem xg(s fl:Int)(c f:List Int):∀(n:Nat) (k:Int) (L:List Int) (es:List ag),MI s fl c f L es→∃L',MI s fl c f L' (mons s fl c f n k L es)∧L'.length≤L.length+n
 | 0,k,L,es,h=>⟨L,h,Nat.le_refl _⟩
 | n+1,k,L,es,h=>by
  unfold mons
  by_cases h0:aP c f 4 L=[]
  ·rw[if_pos h0]
   exact⟨L,h,by omega⟩
  ·rw[if_neg h0]
   have hm:=g8 (lH s fl c f 4 (7+k) L h0);have ep:(aP c f 4 L).getD (dv s fl (7+k) 0 (aP c f 4 L).length).toNat 0=pk s fl c f 4 (7+k) L:=rfl;rw[ep];generalize pk s fl c f 4 (7+k) L=p at *
   obtain⟨L',h1,h2⟩:=xg s fl c f n (k+1) (L++[p]) (es++[entAt s fl k p]) ⟨by simp[h.len],qK h.one hm.2.2.2.2,fun i hi=>by
    rw[kD,kD,h.len]
    by_cases e:i=L.length
    ·rw[if_pos e,if_pos e]
     exact⟨k,rfl⟩
    ·rw[if_neg e,if_neg e]
     rw[List.length_append]at hi;exact h.fF i (by simp at hi;omega),fun m hm'=>by
    rcases List.mem_append.1 hm' with x | x
    ·exact h.bG m x
    ·have:m=p:=by simpa using x
     subst this;exact⟨hm.1,hm.2.1,hm.2.2.1,hm.2.2.2.1⟩⟩
   exact⟨L',h1,by simp at h2;omega⟩
theorem Ef(s fl:Int)(c f:List Int):∃L,MI s fl c f L (mons s fl c f (fl+2).toNat 0 [] [])∧L.length≤(fl+2).toNat:=by
 obtain⟨L,h1,h2⟩:=xg s fl c f (fl+2).toNat 0 [] [] ⟨rfl,List.nodup_nil,fun i hi=>absurd hi (Nat.not_lt_zero i),fun n hn=>by cases hn⟩
 exact⟨L,h1,by simpa using h2⟩
structure II (c:List Int) (L:List Int) (l:List ak):Prop where
 len:l.length=L.length
 one:L.Nodup
 fF:∀i,i<L.length→1≤(l.getD i Gm).1∧(l.getD i Gm).1≤4∧(l.getD i Gm).2=(1,L.getD i 0%24,L.getD i 0/24)
 bG:∀n∈L,0≤n∧n<384∧c.getD n.toNat 0=1
theorem uA(s fl:Int)(c f:List Int):∀(n:Nat) (k:Int) (L:List Int) (l:List ak),II c L l→∃L',II c L' (its s fl c f n k L l)∧L'.length≤L.length+n
 | 0,k,L,l,h=>⟨L,h,Nat.le_refl _⟩
 | n+1,k,L,l,h=>by
  unfold its
  by_cases h0:aP c f 0 L=[]
  ·rw[if_pos h0]
   obtain⟨L',h1,h2⟩:=uA s fl c f n (k+1) L l h;exact⟨L',h1,by omega⟩
  ·rw[if_neg h0]
   have hm:=g8 (lH s fl c f 0 (40+k) L h0);have ep:(aP c f 0 L).getD (dv s fl (40+k) 0 (aP c f 0 L).length).toNat 0=pk s fl c f 0 (40+k) L:=rfl;have d:=(ct s fl (40+k) 1 4 (by decide) (by decide)).2
   rw[ep];generalize pk s fl c f 0 (40+k) L=p at *
   obtain⟨L',h1,h2⟩:=uA s fl c f n (k+1) (L++[p]) (l++[(1+dv s fl (40+k) 1 4,1,p%24,p/24)]) ⟨by simp[h.len],qK h.one hm.2.2.2.2,fun i hi=>by
    rw[kD,kD,h.len]
    by_cases e:i=L.length
    ·rw[if_pos e,if_pos e]
     exact⟨by dsimp only;omega,by dsimp only;omega,rfl⟩
    ·rw[if_neg e,if_neg e]
     rw[List.length_append]at hi;exact h.fF i (by simp at hi;omega),fun m hm'=>by
    rcases List.mem_append.1 hm' with x | x
    ·exact h.bG m x
    ·have:m=p:=by simpa using x
     subst this;exact⟨hm.1,hm.2.1,hm.2.2.1⟩⟩
   exact⟨L',h1,by simp at h2;omega⟩
theorem FM(s fl:Int)(c f:List Int):∃L,II c L (its s fl c f 4 0 [] [])∧L.length≤4:=by
 obtain⟨L,h1,h2⟩:=uA s fl c f 4 0 [] [] ⟨rfl,List.nodup_nil,fun i hi=>absurd hi (Nat.not_lt_zero i),fun n hn=>by cases hn⟩
 exact⟨L,h1,by simpa using h2⟩
theorem zu(s fl:Int):(fJ s fl).length=if (cD s fl).isSome then 3 else 0:=by
 unfold fJ;split<;>rfl
def mT(p:Nat→Bool)(n:Nat):Nat:=((List.range n).filter p).length
theorem pj(p:Nat→Bool)(n:Nat):mT p (n+1)=mT p n+if p n then 1 else 0:=by
 unfold mT;rw[List.range_succ,List.filter_append,List.length_append,List.filter_cons];cases p n<;>rfl
end Go.Proofs.YthdgahpomhnidaaGreat.Fl
namespace Go.Proofs.YthdgahpomhnidaaGreat.Wd
open Go Mx Pc Run Field Gen GenL Fl
set_option maxHeartbeats 1000000
abbrev eN:ag:=Run.zE
abbrev iN:ak:=(0,0,0,0)
def bN(w a b:Int)(x:ak):Bool:=x.2.1==w&&(x.2.2.1==a&&x.2.2.2==b)
def aA(l:List ak)(w a b:Int):Int:=match (List.range l.length).find? fun i=>bN w a b (l.getD i iN) with | some i=>(i:Int) | none=>-1
theorem fy(l:List ak)(hl:l.length≤100000)(w a b:Int):f136 l w a b=some (aA l w a b,()):=by
 unfold f136 f136.L1 aA;refine(it_find (x:=(l,w,a,b,0,())) (fun i=>bN w a b (l.getD i iN)) l.length (fun i:Nat=>(l,w,a,b,(i:Int),())) (fun i=>some ((i:Int),())) (some (-1,())) (fun rec i hi=>?_) (by omega) rfl).trans ?_
 rotate_left
 ·cases (List.range l.length).find? fun i=>bN w a b (l.getD i iN)<;>rfl
 ·dsimp only
  rw[af]
  by_cases c:i<l.length
  ·rw[if_pos c,if_pos (by omega),ao (by omega),wr (x:=(i:Int)+1) (by omega),Int.toNat_natCast]
   unfold bN;simp only[cond_true];cases (l.getD i (0,0,0,0)).2.1==w<;>cases (l.getD i (0,0,0,0)).2.2.1==a<;>cases (l.getD i (0,0,0,0)).2.2.2==b<;>rfl
  ·rw[if_neg c,if_neg (by omega)]
theorem pD{l:List ak}{w a b:Int}:aA l w a b<0↔∀i,i<l.length→bN w a b (l.getD i iN)=false:=by
 unfold aA;cases h:(List.range l.length).find? fun i=>bN w a b (l.getD i iN) with
 | none =>
  simp only
  refine⟨fun _ i hi=>?_,fun _=>by decide⟩
  have:=List.find?_range_eq_none.1 h i hi;simpa using this
 | some k =>
  simp only
  obtain⟨h1,h2,_⟩:=List.find?_range_eq_some.1 h;refine⟨fun q=>by omega,fun q=>?_⟩
  rw[q k (List.mem_range.1 h2)]at h1;cases h1
theorem j7{l:List ak}{w a b:Int}(h:¬aA l w a b<0):∃k,k<l.length∧aA l w a b=k∧bN w a b (l.getD k iN)=true∧∀j,j<k→bN w a b (l.getD j iN)=false:=by
 unfold aA at h ⊢;cases e:(List.range l.length).find? fun i=>bN w a b (l.getD i iN) with
 | none=>rw[e]at h;exact absurd (by decide) h
 | some k =>
  obtain⟨h1,h2,h3⟩:=List.find?_range_eq_some.1 e;exact⟨k,List.mem_range.1 h2,rfl,h1,fun j hj=>by simpa using h3 j hj⟩
def cQ(c:List Int)(x:ak):Prop :=
 (x.2.1=1∧0≤x.2.2.1∧x.2.2.1<24∧0≤x.2.2.2∧x.2.2.2<16∧c.getD (x.2.2.2*24+x.2.2.1).toNat 0≠0) ∨
 (x.2.1=2∧0≤x.2.2.1∧x.2.2.1<4∧0≤x.2.2.2∧x.2.2.2<4∧x.1≠4) ∨
 (x.2.1=3∧0≤x.2.2.1∧x.2.2.1<4∧((x.1=2∧x.2.2.2=0)∨(x.1=3∧x.2.2.2=1))) ∨
 (x.2.1=4∧0≤x.2.2.1∧x.2.2.1<3∧x.2.2.2=0∧x.1≠4)
structure aH (c:List Int) (l:List ak):Prop where
 len:l.length=40
 kind:∀i,i<40→l.getD i iN=iN∨(1≤(l.getD i iN).1∧(l.getD i iN).1≤4∧cQ c (l.getD i iN))
 one:∀i j,i<40→j<40→l.getD i iN≠iN→(l.getD i iN).2=(l.getD j iN).2→i=j
theorem cQ.wh{c:List Int}{x:ak}(h:cQ c x):1≤x.2.1∧x.2.1≤4:=by unfold cQ at h;omega
theorem aH.none(c:List Int):aH c (List.replicate 40 iN):=by
 have g:∀i,(List.replicate 40 iN).getD i iN=iN:=fun i=>by
  rw[List.getD_eq_getElem?_getD,List.getElem?_replicate];split<;>rfl
 exact⟨List.length_replicate,fun i _=>.inl (g i),fun i j _ _ h _=>absurd (g i) h⟩
theorem aH.put{c:List Int}{l:List ak}(h:aH c l){x:ak}{n:Nat}(hn:n<40)(hk:1≤x.1∧x.1≤4)(hp:cQ c x)(hf:∀i,i<40→i≠n→(l.getD i iN).2≠x.2):aH c (l.set n x):=by
 have hl:=h.len;have g:∀i,(l.set n x).getD i iN=if n=i then x else l.getD i iN:=fun i=>by
  rw[aN]
  by_cases e:n=i
  ·rw[if_pos ⟨e,by omega⟩,if_pos e]
  ·rw[if_neg (fun z=>e z.1),if_neg e]
 refine⟨by rw[List.length_set];exact hl,fun i hi=>?_,fun i j hi hj hne he=>?_⟩
 ·rw[g]
  by_cases e:n=i
  ·rw[if_pos e];exact .inr ⟨hk.1,hk.2,hp⟩
  ·rw[if_neg e];exact h.kind i hi
 ·rw[g]at hne he
  rw[g]at he
  by_cases e:n=i
  ·rw[if_pos e]at he
   by_cases e2:n=j
   ·omega
   ·rw[if_neg e2]at he
    exact absurd he.symm (hf j hj (fun z=>e2 z.symm))
  ·rw[if_neg e]at hne he
   by_cases e2:n=j
   ·rw[if_pos e2]at he
    exact absurd he (hf i hi (fun z=>e z.symm))
   ·rw[if_neg e2]at he
    exact h.one i j hi hj hne he
theorem aH.drop{c:List Int}{l:List ak}(h:aH c l)(n:Nat):aH c (l.set n iN):=by
 have hl:=h.len
 by_cases hn:n<40
 ·have g:∀i,(l.set n iN).getD i iN=if n=i then iN else l.getD i iN:=fun i=>by
   rw[aN]
   by_cases e:n=i
   ·rw[if_pos ⟨e,by omega⟩,if_pos e]
   ·rw[if_neg (fun z=>e z.1),if_neg e]
  refine⟨by rw[List.length_set];exact hl,fun i hi=>?_,fun i j hi hj hne he=>?_⟩
  ·rw[g]
   by_cases e:n=i
   ·rw[if_pos e];exact .inl rfl
   ·rw[if_neg e];exact h.kind i hi
  ·rw[g]at hne he
   rw[g]at he
   by_cases e:n=i
   ·rw[if_pos e]at hne;exact absurd rfl hne
   ·rw[if_neg e]at hne he
    by_cases e2:n=j
    ·rw[if_pos e2]at he
     rcases h.kind i hi with q | q
     ·exact absurd q hne
     ·have:=q.2.2.wh
      rw[he]at this;exact absurd this.1 (by decide)
    ·rw[if_neg e2]at he
     exact h.one i j hi hj hne he
 ·rw[List.set_eq_of_length_le (by omega)]
  exact h
end Go.Proofs.YthdgahpomhnidaaGreat.Wd
namespace Go.Proofs.YthdgahpomhnidaaGreat.Ft
open Go Mx Pc Run Field Gen GenL Fl Wd
set_option maxHeartbeats 1000000
def kd(e:ag):Int:=e.1
def gn(e:ag):Int:=e.2.1
def st(e:ag):Int:=e.2.2.1
def ex(e:ag):Int:=e.2.2.2.1
def ey(e:ag):Int:=e.2.2.2.2.1
def hp(e:ag):Int:=e.2.2.2.2.2.1
def bE(e:ag):Int:=e.2.2.2.2.2.2.1
def c8(e:ag):Int:=e.2.2.2.2.2.2.2.1
def df(e:ag):Int:=e.2.2.2.2.2.2.2.2.1
def po(e:ag):Int:=e.2.2.2.2.2.2.2.2.2.1
def sn(e:ag):Int:=e.2.2.2.2.2.2.2.2.2.2
def GN(e:ag)(v:Int):ag:=(e.1,e.2.1,e.2.2.1,e.2.2.2.1,e.2.2.2.2.1,v,e.2.2.2.2.2.2.1,e.2.2.2.2.2.2.2.1,e.2.2.2.2.2.2.2.2.1,e.2.2.2.2.2.2.2.2.2.1,e.2.2.2.2.2.2.2.2.2.2)
def qQ(e:ag)(v:Int):ag:=(e.1,e.2.1,e.2.2.1,e.2.2.2.1,e.2.2.2.2.1,e.2.2.2.2.2.1,e.2.2.2.2.2.2.1,e.2.2.2.2.2.2.2.1,e.2.2.2.2.2.2.2.2.1,v,e.2.2.2.2.2.2.2.2.2.2)
def fI(e:ag)(v:Int):ag:=(e.1,e.2.1,e.2.2.1,e.2.2.2.1,e.2.2.2.2.1,e.2.2.2.2.2.1,e.2.2.2.2.2.2.1,e.2.2.2.2.2.2.2.1,e.2.2.2.2.2.2.2.2.1,e.2.2.2.2.2.2.2.2.2.1,v)
def zh(e:ag):Prop:=(kd e=0∧e=(0,gn e,0,0,0,0,0,0,0,0,0))∨(1≤kd e∧kd e≤4∧1≤hp e∧hp e≤bE e∧bE e≤20∧0≤c8 e∧c8 e≤5∧0≤df e∧df e≤1∧0≤po e∧po e≤9∧0≤sn e∧sn e≤9)
structure eC (l:List ag):Prop where
 len:l.length=32
 tZ:∀i,i<32→zh (l.getD i eN)
def eV(its:List ak):Prop:=its.length≤1000∧∀i,i<its.length→(its.getD i iN).2.1≠0→(its.getD i iN).1≠0
def alive(l:List ag)(r:Int):Bool:=decide (0≤r)&&decide (r<(l.length:Int))&&(l.getD r.toNat eN).1 !=0
def cO(e:ag):ag:=(0,e.2.1,0,0,0,0,0,0,0,0,0)
def dM(s:Int)(x:ak):ak:=if (x.2.1=2∨x.2.1=3)∧x.2.2.1=s then iN else x
def fi(its:List ak)(s:Int):List ak:=its.map (dM s)
def cZ(l:List ag)(its:List ak)(r n:Int):List ag×List ak :=
 if alive l r=false∨n<1 then (l,its)
 else if n<hp (l.getD r.toNat eN) then (l.set r.toNat (GN (l.getD r.toNat eN) (hp (l.getD r.toNat eN)-n)),its)
 else (l.set r.toNat (cO (l.getD r.toNat eN)),if kd (l.getD r.toNat eN)=1 then fi its (st (l.getD r.toNat eN)) else its)
def jy(its:List ak)(s:Int):Int×Int:=(if aA its 3 s 0<0 then 0 else 3,if aA its 3 s 1<0 then 0 else 2)
noncomputable section
def dz(n s:Int)(l:List Int):Int:=((f146 n s l).getD (0,())).1
theorem jZ(n s:Int)(l:List Int)(hl:l.length≤1000)(h1:1≤n)(h2:n≤1000000000):f146 n s l=some (dz n s l,())∧0≤dz n s l∧dz n s l<n:=by
 obtain⟨y,e,h⟩:=zA n s l (by omega) h1 h2
 unfold dz;rw[e];exact⟨rfl,h⟩
def arm(e:ag)(its:List ak):Int:=if kd e=1 then c8 e+(jy its (st e)).1 else c8 e
def dN(e:ag)(its:List ak):Int:=if kd e=1 then df e+(jy its (st e)).2 else df e
def gC(sd fr a b:Int)(l:List ag)(its:List ak):Int:=max 1 (arm (l.getD a.toNat eN) its-dN (l.getD b.toNat eN) its)+dz 3 sd [fr,a,b,77]
def leave(sd fr a b k:Int)(l:List ag):List ag :=
 if k=4 then l.set b.toNat (qQ (l.getD b.toNat eN) (min (po (l.getD b.toNat eN)+3) 9))
 else if k=3 then (if dz 4 sd [fr,a,b,78]=0 then l.set b.toNat (fI (l.getD b.toNat eN) (min (sn (l.getD b.toNat eN)+2) 9)) else l)
 else l
def dT(sd fr:Int)(l:List ag)(its:List ak)(a b:Int):List ag×List ak :=
 if alive l a=false∨alive l b=false then (l,its)
 else if alive (cZ l its b (gC sd fr a b l its)).1 b=false then cZ l its b (gC sd fr a b l its)
 else (leave sd fr a b (kd (l.getD a.toNat eN)) (cZ l its b (gC sd fr a b l its)).1,(cZ l its b (gC sd fr a b l its)).2)
def kb(l:List ag)(its:List ak)(i:Nat):List ag×List ak :=
 if alive l i=false then (l,its)
 else
  let l1:=if 0<sn (l.getD i eN) then l.set i (fI (l.getD i eN) (sn (l.getD i eN)-1)) else l
  if 0<po (l1.getD i eN) then cZ (l1.set i (qQ (l1.getD i eN) (po (l1.getD i eN)-1))) its i 1 else (l1,its)
def cR(l:List ag)(its:List ak)(n:Nat):List ag×List ak:=(List.range n).foldl (fun p i=>kb p.1 p.2 i) (l,its)
theorem mm(l:List ag)(its:List ak)(n:Nat):cR l its (n+1)=kb (cR l its n).1 (cR l its n).2 n:=by
 unfold cR;rw[List.range_succ,List.foldl_append];rfl
theorem bn{A:Type}(l:List A)(i j:Nat)(x d:A)(h:i<l.length):(l.set i x).getD j d=if i=j then x else l.getD j d:=by
 rw[aN]
 by_cases e:i=j
 ·rw[if_pos ⟨e,h⟩,if_pos e]
 ·rw[if_neg (fun z=>e z.1),if_neg e]
theorem eC.set{l:List ag}(h:eC l)(i:Nat){e:ag}(he:zh e):eC (l.set i e):=⟨by rw[List.length_set];exact h.len,fun j hj=>by
 rw[aN];split
 ·exact he
 ·exact h.tZ j hj⟩
theorem bS{l:List ag}{r:Int}:alive l r=true↔0≤r∧r<l.length∧kd (l.getD r.toNat eN)≠0:=by
 unfold alive kd;simp only[Bool.and_eq_true,decide_eq_true_eq,bne_iff_ne,ne_eq,and_assoc]
theorem zh.free(e:ag):zh (cO e):=.inl ⟨rfl,rfl⟩
theorem eC.taken{l:List ag}(h:eC l){r:Int}(ha:alive l r=true):1≤kd (l.getD r.toNat eN)∧kd (l.getD r.toNat eN)≤4∧1≤hp (l.getD r.toNat eN)∧hp (l.getD r.toNat eN)≤bE (l.getD r.toNat eN)∧bE (l.getD r.toNat eN)≤20∧0≤c8 (l.getD r.toNat eN)∧c8 (l.getD r.toNat eN)≤5∧0≤df (l.getD r.toNat eN)∧df (l.getD r.toNat eN)≤1∧0≤po (l.getD r.toNat eN)∧po (l.getD r.toNat eN)≤9∧0≤sn (l.getD r.toNat eN)∧sn (l.getD r.toNat eN)≤9:=by
 obtain⟨h0,h1,h2⟩:=bS.1 ha;have hl:=h.len;rcases h.tZ r.toNat (by omega) with ⟨q,_⟩ | q
 ·exact absurd q h2
 ·exact q
theorem kq(its:List ak)(s:Int):(fi its s).length=its.length:=by simp[fi]
theorem km(its:List ak)(s:Int)(i:Nat):(fi its s).getD i iN=dM s (its.getD i iN):=by
 unfold fi;simp only[List.getD_eq_getElem?_getD,List.getElem?_map];cases its[i]? with
 | some x=>rfl
 | none =>
  show iN=dM s iN;unfold dM;split<;>rfl
theorem eV.fi{its:List ak}(h:eV its)(s:Int):eV (fi its s):=⟨by rw[kq];exact h.1,fun i hi=>by
 rw[kq]at hi;rw[km];unfold dM;split
 ·intro z;exact absurd rfl z
 ·exact h.2 i hi⟩
theorem rK{l:List ag}{its:List ak}(h:eC l)(hi:eV its)(r n:Int):eC (cZ l its r n).1∧eV (cZ l its r n).2∧(cZ l its r n).2.length=its.length:=by
 unfold cZ;split
 ·exact⟨h,hi,rfl⟩
 ·rename_i q
  have ha:alive l r=true:=by
   cases e:alive l r with
   | true=>rfl
   | false=>exact absurd (.inl e) q
  have t:=h.taken ha;split
  ·rename_i q2
   refine⟨h.set _ (.inr ?_),hi,rfl⟩;have:1≤n:=by omega
   show 1≤kd (l.getD r.toNat eN)∧kd (l.getD r.toNat eN)≤4∧1≤hp (l.getD r.toNat eN)-n∧hp (l.getD r.toNat eN)-n≤bE (l.getD r.toNat eN)∧bE (l.getD r.toNat eN)≤20∧0≤c8 (l.getD r.toNat eN)∧c8 (l.getD r.toNat eN)≤5∧0≤df (l.getD r.toNat eN)∧df (l.getD r.toNat eN)≤1∧0≤po (l.getD r.toNat eN)∧po (l.getD r.toNat eN)≤9∧0≤sn (l.getD r.toNat eN)∧sn (l.getD r.toNat eN)≤9;omega
  ·refine⟨h.set _ (zh.free _),?_,?_⟩
   ·dsimp only
    split
    ·exact hi.fi _
    ·exact hi
   ·dsimp only
    split
    ·exact kq _ _
    ·rfl
theorem DM{l:List ag}{its:List ak}(h:eC l)(hi:eV its)(i:Nat):eC (kb l its i).1∧eV (kb l its i).2∧(kb l its i).2.length=its.length:=by
 unfold kb;split
 ·exact⟨h,hi,rfl⟩
 ·rename_i q
  have ha:alive l i=true:=by cases e:alive l i with | true=>rfl | false=>exact absurd e q
  have t:=h.taken ha;rw[Int.toNat_natCast]at t;have h1:eC (if 0<sn (l.getD i eN) then l.set i (fI (l.getD i eN) (sn (l.getD i eN)-1)) else l):=by
   split
   ·refine h.set _ (.inr ?_)
    show 1≤kd (l.getD i eN)∧kd (l.getD i eN)≤4∧1≤hp (l.getD i eN)∧hp (l.getD i eN)≤bE (l.getD i eN)∧bE (l.getD i eN)≤20∧0≤c8 (l.getD i eN)∧c8 (l.getD i eN)≤5∧0≤df (l.getD i eN)∧df (l.getD i eN)≤1∧0≤po (l.getD i eN)∧po (l.getD i eN)≤9∧0≤sn (l.getD i eN)-1∧sn (l.getD i eN)-1≤9;omega
   ·exact h
  have ha1:kd ((if 0<sn (l.getD i eN) then l.set i (fI (l.getD i eN) (sn (l.getD i eN)-1)) else l).getD i eN)≠0:=by
   have hl:=h.len;obtain⟨_,q1,q2⟩:=bS.1 ha;rw[Int.toNat_natCast]at q2;split
   ·rw[bn _ _ _ _ _ (by omega),if_pos rfl];exact q2
   ·exact q2
  have hi32:i<32:=by
   have hl:=h.len;have:=(bS.1 ha).2.1;omega
  dsimp only;generalize (if 0<sn (l.getD i eN) then l.set i (fI (l.getD i eN) (sn (l.getD i eN)-1)) else l)=l1 at *
  split
  ·rename_i q3
   refine rK (h1.set _ (.inr ?_)) hi i 1;rcases h1.tZ i hi32 with q4 | q4
   ·exact absurd q4.1 ha1
   ·show 1≤kd (l1.getD i eN)∧kd (l1.getD i eN)≤4∧1≤hp (l1.getD i eN)∧hp (l1.getD i eN)≤bE (l1.getD i eN)∧bE (l1.getD i eN)≤20∧0≤c8 (l1.getD i eN)∧c8 (l1.getD i eN)≤5∧0≤df (l1.getD i eN)∧df (l1.getD i eN)≤1∧0≤po (l1.getD i eN)-1∧po (l1.getD i eN)-1≤9∧0≤sn (l1.getD i eN)∧sn (l1.getD i eN)≤9
    omega
  ·exact⟨h1,hi,rfl⟩
theorem tU{l:List ag}{its:List ak}(h:eC l)(hi:eV its):∀n,eC (cR l its n).1∧eV (cR l its n).2∧(cR l its n).2.length=its.length
 | 0=>⟨h,hi,rfl⟩
 | n+1=>by
  rw[mm];obtain⟨a,b,c⟩:=tU h hi n;obtain⟨a',b',c'⟩:=DM a b n;exact⟨a',b',by omega⟩
end
end Go.Proofs.YthdgahpomhnidaaGreat.Ft
namespace Go.Proofs.YthdgahpomhnidaaGreat.Ft
open Go Mx Pc Run Field Gen GenL Fl Wd
set_option maxHeartbeats 1000000
theorem na{X Y B:Type}{F:(X→Option B)→X→Option B}{G:(Y→Option B)→Y→Option B}(r:X→Y→Prop)
  (h:∀(f:X→Option B) (g:Y→Option B) x y,r x y→(∀x' y',r x' y'→f x'=g y')→F f x=G g y):∀(n:Nat) (x:X) (y:Y),r x y→Mx.it F n x=Mx.it G n y
 | 0,x,y,_=>by rw[lB,lB]
 | n+1,x,y,hr=>by
  rw[fC,fC];exact h _ _ x y hr fun x' y' q=>na r h n x' y' q
theorem zd{A B C:Type}(f:A→B→C){a a':A}{b b':B}(h:a=a')(h':b=b'):f a b=f a' b':=by rw[h,h']
theorem lC(a:Int):f163 a=f184 a:=rfl
theorem iF(s:Int)(l:List Int):f128 s l=f169 s l:=by
 unfold f128 f169;rw[lC];refine congrArg _ (funext fun y=>?_)
 unfold f128.L1 f169.L1;refine na (fun x y=>x=(y.2.1,y.1,(y.1.length:Int),y.2.2.1,())) ?_ _ _ _ rfl
 rintro f g x ⟨l,acc,i,u⟩ rfl hr
 dsimp only;rw[lC];generalize f184 _=o;refine zd (fun a b=>bif decide (i<(l.length:Int)) then a else b) ?_ rfl
 refine zd (fun a b=>bif ae i l.length then a else b) ?_ rfl
 refine congrArg _ (funext fun y=>?_)
 exact hr _ (l,y.1,_,()) rfl
theorem j1(n s:Int)(l:List Int):f71 n s l=f146 n s l:=by
 unfold f71 f146;rw[iF]
section
variable (a0 a1 a2 a3:Int) (c:List Int) (a7 a8 a9 a10:Int)
theorem qy{l:List ag}(hl:l.length=32)(its:List ak)(r:Int):f114 a0 a1 a2 a3 c l its a7 a8 a9 a10 r=some (alive l r,()):=by
 unfold f114 alive;simp only[af]
 by_cases h0:r≥0
 ·by_cases h1:r<l.length
  ·rw[if_pos h0,if_pos h1,if_pos (by omega),ao (by omega),cond_true,decide_eq_true (show 0≤r by omega),decide_eq_true h1]
   rfl
  ·rw[if_pos h0,if_neg h1,decide_eq_false h1,Bool.and_false,Bool.false_and]
 ·rw[if_neg h0,decide_eq_false (show ¬0≤r by omega),Bool.false_and,Bool.false_and]
theorem j0(l:List ag)(its:List ak)(r:Int):f147 a0 a1 a2 a3 c l its a7 a8 a9 a10 r=some (alive l r,()):=by
 unfold f147 alive;simp only[af]
 by_cases h0:r≥0
 ·by_cases h1:r<l.length
  ·rw[if_pos h0,if_pos h1,ao (by omega),cond_true,decide_eq_true (show 0≤r by omega),decide_eq_true h1]
   rfl
  ·rw[if_pos h0,if_neg h1,decide_eq_false h1,Bool.and_false,Bool.false_and]
 ·rw[if_neg h0,decide_eq_false (show ¬0≤r by omega),Bool.false_and,Bool.false_and]
theorem jP(l:List Int)(h:l.length≤100000):f103 l=some (l,()):=by
 unfold f103 da;rw[decide_eq_true (by simp[aB];omega),cond_true];rfl
theorem gX(l:List ag)(h:l.length≤100000):f104 l=some (l,()):=by
 unfold f104 da;rw[decide_eq_true (by simp[aB];omega),cond_true];rfl
theorem g9(l:List ak)(h:l.length≤100000):f105 l=some (l,()):=by
 unfold f105 da;rw[decide_eq_true (by simp[aB];omega),cond_true];rfl
theorem mf{l:List ag}{its:List ak}(hc:c.length≤1000)(hl:l.length≤1000)(hi:its.length≤1000):f113 a0 a1 a2 a3 c l its a7 a8 a9 a10=some (a0,a1,a2,a3,a7,a8,a9,a10,c,l,its,()):=by
 unfold f113;rw[jP c (by omega),gX l (by omega),g9 its (by omega)]
 rfl
theorem pR{l:List ag}{its:List ak}(hc:c.length≤1000)(hl:l.length≤1000)(hi:its.length≤1000):f176 a0 a1 a2 a3 c l its a7 a8 a9 a10=some (a0,a1,a2,a3,a7,a8,a9,a10,c,l,its,()):=by
 unfold f176;rw[jP c (by omega),gX l (by omega),g9 its (by omega)]
 rfl
theorem fj{l:List ag}{its:List ak}(hc:c.length≤1000)(hl:l.length≤1000)(hi:its.length≤1000):f79 a0 a1 a2 a3 c l its a7 a8 a9 a10=some (a0,a1,a2,a3,a7,a8,a9,a10,c,l,its,()):=by
 unfold f79;rw[decide_eq_true (by simp[aB];omega),decide_eq_true (by simp[aB];omega),decide_eq_true (by simp[aB];omega)]
 rfl
theorem find_eq{its:List ak}(hi:eV its){l:List ag}(w a b:Int)(hw:w≠0):f180 a0 a1 a2 a3 c l its a7 a8 a9 a10 w a b=some (aA its w a b,()):=by
 have hlen:=hi.1;unfold f180 f189 f189.L1;have key:Mx.it _ _ _=_:=it_find (fuel:=100000000000000000000) (x:=(its,(its.length:Int),0,w,a,b,())) (step:=fun rec x=>bif decide (x.2.2.1<x.2.1) then bif ae x.2.2.1 x.1.length then Option.bind (f190 (x.1.getD x.2.2.1.toNat (0,0,0,0)).1 (x.1.getD x.2.2.1.toNat (0,0,0,0)).2.1 (x.1.getD x.2.2.1.toNat (0,0,0,0)).2.2.1 (x.1.getD x.2.2.1.toNat (0,0,0,0)).2.2.2 x.2.2.2.1 x.2.2.2.2.1 x.2.2.2.2.2.1) fun y0=>bif y0.1 then some (x.2.2.1,x.2.2.2.1,x.2.2.2.2.1,x.2.2.2.2.2.1,()) else rec (x.1,x.2.1,IntKind.wrap .i64 (x.2.2.1+1),x.2.2.2.1,x.2.2.2.2.1,x.2.2.2.2.2.1,()) else none else some (-1,x.2.2.2.1,x.2.2.2.2.1,x.2.2.2.2.2.1,())) (fun i=>bN w a b (its.getD i iN)) its.length (fun i:Nat=>(its,(its.length:Int),(i:Int),w,a,b,())) (fun i=>some ((i:Int),w,a,b,())) (some (-1,w,a,b,())) (fun rec i hi'=>by
  dsimp only;rw[af]
  by_cases q:i<its.length
  ·rw[if_pos (by omega),if_pos q,ao (by omega),cond_true,wr (by omega),Int.toNat_natCast]
   have hk:=hi.2 i q;have ef:f190 (its.getD i iN).1 (its.getD i iN).2.1 (its.getD i iN).2.2.1 (its.getD i iN).2.2.2 w a b=some (bN w a b (its.getD i iN),()):=by
    unfold f190 bN
    by_cases k0:(its.getD i iN).1=0
    ·have k1:((its.getD i iN).1 !=0)=false:=by rw[k0];rfl
     have w0:(its.getD i iN).2.1=0:=Decidable.byContradiction fun z=>hk z k0
     have w1:((its.getD i iN).2.1==w)=false:=by rw[beq_eq_false_iff_ne,w0];exact fun z=>hw z.symm
     rw[k1,w1];rfl
    ·have k1:((its.getD i iN).1 !=0)=true:=bne_iff_ne.2 k0
     rw[k1,cond_true];cases (its.getD i iN).2.1==w<;>cases (its.getD i iN).2.2.1==a<;>cases (its.getD i iN).2.2.2==b<;>rfl
   rw[ef];simp only[Option.bind_some];cases bN w a b (its.getD i iN)<;>rfl
  ·rw[if_neg (by omega),if_neg q]) (by omega) rfl
 rw[key];unfold aA;cases (List.range its.length).find? fun i=>bN w a b (its.getD i iN)<;>rfl
theorem BJ{its:List ak}(hi:eV its){l:List ag}(s:Int):f192 a0 a1 a2 a3 c l its a7 a8 a9 a10 s=some ((jy its s).1,(jy its s).2,()):=by
 unfold f192 jy;rw[find_eq a0 a1 a2 a3 c a7 a8 a9 a10 hi 3 s 0 (by decide)]
 simp only[Option.bind_some];have h1:=find_eq a0 a1 a2 a3 c a7 a8 a9 a10 hi (l:=l) 3 s 1 (by decide)
 rw[af]
 by_cases q0:aA its 3 s 0<0
 ·rw[if_neg (by omega),if_pos q0]
  simp only[Option.bind_some,Sum.elim_inl];rw[h1];simp only[Option.bind_some];rw[af]
  by_cases q1:aA its 3 s 1<0
  ·rw[if_neg (by omega),if_pos q1];rfl
  ·rw[if_pos (by omega),if_neg q1];rfl
 ·rw[if_pos (by omega),if_neg q0]
  simp only[Option.bind_some,Sum.elim_inl];rw[h1];simp only[Option.bind_some];rw[af]
  by_cases q1:aA its 3 s 1<0
  ·rw[if_neg (by omega),if_pos q1];rfl
  ·rw[if_pos (by omega),if_neg q1];rfl
theorem sk{its:List ak}(hi:its.length≤1000){l:List ag}(s:Int):f165 a0 a1 a2 a3 c l its a7 a8 a9 a10 s=some ((jy its s).1,(jy its s).2,()):=by
 unfold f165 jy;rw[fy its (by omega) 3 s 0]
 simp only[Option.bind_some];have h1:=fy its (by omega) 3 s 1
 rw[af]
 by_cases q0:aA its 3 s 0<0
 ·rw[if_neg (by omega),if_pos q0]
  simp only[Option.bind_some,Sum.elim_inl];rw[h1];simp only[Option.bind_some];rw[af]
  by_cases q1:aA its 3 s 1<0
  ·rw[if_neg (by omega),if_pos q1];rfl
  ·rw[if_pos (by omega),if_neg q1];rfl
 ·rw[if_pos (by omega),if_neg q0]
  simp only[Option.bind_some,Sum.elim_inl];rw[h1];simp only[Option.bind_some];rw[af]
  by_cases q1:aA its 3 s 1<0
  ·rw[if_neg (by omega),if_pos q1];rfl
  ·rw[if_pos (by omega),if_neg q1];rfl
theorem rP{l:List ag}(hl:l.length=32){r:Int}(ha:alive l r=true):f116 l r=some (l.set r.toNat (cO (l.getD r.toNat eN)),()):=by
 obtain⟨h0,h1,_⟩:=bS.1 ha;unfold f116 f162;have e:Int.toNat (aX (l.length:Int) 32)=32:=by rw[br];omega
 rw[gX l (by omega)]
 simp only[Option.bind_some];rw[af,if_pos (by omega),decide_eq_true (by rw[br];omega),cond_true,e]
 simp only[Option.bind_some];rw[List.drop_zero,List.take_of_length_le (by omega),af,if_pos h1,ao (by omega),cond_true,cond_true]
 rfl
theorem Ch{l:List ag}(hl:l.length=32){r:Int}(ha:alive l r=true):f149 l r=some (l.set r.toNat (cO (l.getD r.toNat eN)),()):=by
 obtain⟨h0,h1,_⟩:=bS.1 ha;unfold f149;rw[decide_eq_true (by simp[aB];omega),cond_true,af,if_pos (by omega),af,if_pos h1,ao (by omega),cond_true,cond_true]
 rfl
def jx(its:List ak)(s:Int)(i:Nat):List ak:=(its.take i).map (dM s)++its.drop i
theorem jR(its:List ak)(s:Int)(i:Nat)(hi:i≤its.length)(j:Nat):(jx its s i).getD j iN=if j<i then dM s (its.getD j iN) else its.getD j iN:=by
 unfold jx;have hl:((its.take i).map (dM s)).length=i:=by rw[List.length_map,List.length_take];omega
 by_cases h:j<i
 ·rw[if_pos h,List.getD_eq_getElem?_getD,List.getElem?_append_left (by omega),List.getElem?_map,List.getElem?_take_of_lt h,List.getD_eq_getElem?_getD,List.getElem?_eq_getElem (by omega)]
  rfl
 ·rw[if_neg h,List.getD_eq_getElem?_getD,List.getElem?_append_right (by omega),hl,List.getElem?_drop,List.getD_eq_getElem?_getD]
  congr 2
  omega
theorem gj(its:List ak)(s:Int)(i:Nat)(hi:i≤its.length):(jx its s i).length=its.length:=by
 unfold jx;rw[List.length_append,List.length_map,List.length_take,List.length_drop];omega
theorem sW{A:Type}{x y:List A}(d:A)(hl:x.length=y.length)(h:∀i,i<x.length→x.getD i d=y.getD i d):x=y:=by
 apply List.ext_getElem hl;intro i a b;have:=h i a;rw[List.getD_eq_getElem?_getD,List.getD_eq_getElem?_getD,List.getElem?_eq_getElem a,List.getElem?_eq_getElem b]at this;exact this
theorem tO(its:List ak)(s:Int)(i:Nat)(hi:i<its.length):jx its s (i+1)=(jx its s i).set i (dM s (its.getD i iN)):=by
 refine sW iN (by rw[List.length_set,gj _ _ _ (by omega),gj _ _ _ (by omega)]) fun j hj=>?_
 rw[gj _ _ _ (by omega)]at hj
 rw[jR _ _ _ (by omega),aN,gj _ _ _ (by omega),jR _ _ _ (by omega)]
 by_cases e:i=j
 ·subst e
  rw[if_pos (by omega),if_pos ⟨rfl,hi⟩]
 ·rw[if_neg (show ¬(i=j∧i<its.length) from fun z=>e z.1)]
  by_cases e2:j<i
  ·rw[if_pos e2,if_pos (by omega)]
  ·rw[if_neg e2,if_neg (by omega)]
theorem ua(its:List ak)(s:Int)(i:Nat)(hi:i<its.length)(h:dM s (its.getD i iN)=its.getD i iN):jx its s (i+1)=jx its s i:=by
 refine sW iN (by rw[gj _ _ _ (by omega),gj _ _ _ (by omega)]) fun j hj=>?_
 rw[gj _ _ _ (by omega)]at hj
 rw[jR _ _ _ (by omega),jR _ _ _ (by omega)]
 by_cases e:i=j
 ·subst e
  rw[if_pos (by omega),if_neg (by omega),h]
 ·by_cases e2:j<i
  ·rw[if_pos e2,if_pos (by omega)]
  ·rw[if_neg e2,if_neg (by omega)]
theorem wZ(its:List ak)(s:Int):jx its s its.length=fi its s:=by unfold jx fi;simp
theorem Ak{l:List ag}{its:List ak}(hc:c.length≤1000)(hl:l.length≤1000)(hi:its.length≤1000)(s:Int):f170 a0 a1 a2 a3 c l its a7 a8 a9 a10 s=some (a0,a1,a2,a3,a7,a8,a9,a10,c,l,fi its s,()):=by
 refine OK.eq ?_;unfold f170 f170.L1;rw[fj a0 a1 a2 a3 c a7 a8 a9 a10 hc hl hi];simp only[Option.bind_some];refine OK.loop (fun i:Nat=>(s,(i:Int),a0,a1,a2,a3,a7,a8,a9,a10,0,0,0,0,0,0,0,0,c,l,jx its s i,())) (fun i=>i≤its.length) (fun i=>its.length-i) (fun rec i hi' ih=>?_) 0 (by unfold jx;simp) (Nat.zero_le _) (by omega)
 dsimp only;rw[af,gj _ _ _ hi']
 by_cases q:i<its.length
 ·have go:=ih (i+1) (by omega) (by omega) _ rfl
  have hg:=jR its s i (by omega) i
  rw[if_neg (by omega)]at hg
  have es:=tO its s i q;have ek:=ua its s i q;have hg':(jx its s i).getD i (0,0,0,0)=its.getD i iN:=hg;rw[if_pos (by omega),ao (by omega),cond_true,cond_true,cond_true,cond_true,Int.toNat_natCast,hg',wr (by omega)]
  unfold dM at es ek
  by_cases h2:(its.getD i iN).2.1=2
  ·rw[beq_iff_eq.2 h2,cond_true]
   by_cases h3:(its.getD i iN).2.2.1=s
   ·rw[beq_iff_eq.2 h3,cond_true]
    rw[if_pos ⟨.inl h2,h3⟩]at es;rw[es]at go;exact go
   ·rw[beq_eq_false_iff_ne.2 h3,cond_false]
    rw[ek (if_neg (fun z=>h3 z.2))]at go
    exact go
  ·rw[beq_eq_false_iff_ne.2 h2,cond_false]
   by_cases h4:(its.getD i iN).2.1=3
   ·rw[beq_iff_eq.2 h4,cond_true]
    by_cases h3:(its.getD i iN).2.2.1=s
    ·rw[beq_iff_eq.2 h3,cond_true]
     rw[if_pos ⟨.inr h4,h3⟩]at es;rw[es]at go;exact go
    ·rw[beq_eq_false_iff_ne.2 h3,cond_false]
     rw[ek (if_neg (fun z=>h3 z.2))]at go
     exact go
   ·rw[beq_eq_false_iff_ne.2 h4,cond_false]
    rw[ek (if_neg (fun z=>z.1.elim h2 h4))]at go
    exact go
 ·have:i=its.length:=by omega
  subst this;rw[if_neg (by omega),wZ]
  exact OK.ret rfl
theorem A8{l:List ag}{its:List ak}(hc:c.length≤1000)(hl:l.length≤1000)(hi:its.length≤1000)(s:Int):f161 a0 a1 a2 a3 c l its a7 a8 a9 a10 s=some (a0,a1,a2,a3,a7,a8,a9,a10,c,l,fi its s,()):=by
 refine OK.eq ?_;unfold f161 f161.L1;rw[pR a0 a1 a2 a3 c a7 a8 a9 a10 hc hl hi];simp only[Option.bind_some];refine OK.loop (fun i:Nat=>(s,(its.length:Int),(i:Int),a0,a1,a2,a3,a7,a8,a9,a10,0,0,0,0,0,0,0,0,jx its s i,c,l,())) (fun i=>i≤its.length) (fun i=>its.length-i) (fun rec i hi' ih=>?_) 0 (by unfold jx;simp) (Nat.zero_le _) (by omega)
 dsimp only;rw[af,gj _ _ _ hi']
 by_cases q:i<its.length
 ·have go:=ih (i+1) (by omega) (by omega) _ rfl
  have hg:=jR its s i (by omega) i
  rw[if_neg (by omega)]at hg
  have es:=tO its s i q;have ek:=ua its s i q;have hg':(jx its s i).getD i (0,0,0,0)=its.getD i iN:=hg;rw[if_pos (by omega),ao (by omega),wr (by omega)]
  simp only[cond_true,Int.toNat_natCast];rw[hg'];unfold dM at es ek
  by_cases h2:(its.getD i iN).2.1=2
  ·rw[beq_iff_eq.2 h2,cond_true]
   by_cases h3:(its.getD i iN).2.2.1=s
   ·rw[beq_iff_eq.2 h3,cond_true]
    rw[if_pos ⟨.inl h2,h3⟩]at es;rw[es]at go;exact go
   ·rw[beq_eq_false_iff_ne.2 h3,cond_false]
    rw[ek (if_neg (fun z=>h3 z.2))]at go
    exact go
  ·rw[beq_eq_false_iff_ne.2 h2,cond_false]
   by_cases h4:(its.getD i iN).2.1=3
   ·rw[beq_iff_eq.2 h4,cond_true]
    by_cases h3:(its.getD i iN).2.2.1=s
    ·rw[beq_iff_eq.2 h3,cond_true]
     rw[if_pos ⟨.inr h4,h3⟩]at es;rw[es]at go;exact go
    ·rw[beq_eq_false_iff_ne.2 h3,cond_false]
     rw[ek (if_neg (fun z=>h3 z.2))]at go
     exact go
   ·rw[beq_eq_false_iff_ne.2 h4,cond_false]
    rw[ek (if_neg (fun z=>z.1.elim h2 h4))]at go
    exact go
 ·have:i=its.length:=by omega
  subst this;rw[if_neg (by omega),wZ]
  exact OK.ret rfl
theorem xk{l:List ag}{its:List ak}(hc:c.length≤1000)(h:eC l)(hi:its.length≤1000)(r n:Int):f115 a0 a1 a2 a3 c l its a7 a8 a9 a10 r n=some (a0,a1,a2,a3,a7,a8,a9,a10,c,(cZ l its r n).1,(cZ l its r n).2,()):=by
 have hl:=h.len;unfold f115 cZ;rw[mf a0 a1 a2 a3 c a7 a8 a9 a10 hc (by omega) hi]
 simp only[Option.bind_some];rw[qy a0 a1 a2 a3 c a7 a8 a9 a10 hl];simp only[Option.bind_some];cases ha:alive l r with
 | false=>rw[if_pos (.inl rfl)];rfl
 | true =>
  have t:=h.taken ha;obtain⟨h0,h1,_⟩:=bS.1 ha;rw[Bool.not_true,cond_false,af]
  by_cases q:n<1
  ·rw[if_pos q,if_pos (.inr q)]
  ·have eh:(l.getD r.toNat Run.zE).2.2.2.2.2.1=hp (l.getD r.toNat eN):=rfl
   rw[if_neg q,if_neg (by simp only[reduceCtorEq,false_or];exact q),ao (by omega),cond_true,af,eh]
   by_cases q2:n<hp (l.getD r.toNat eN)
   ·rw[if_pos (show hp (l.getD r.toNat eN)>n by omega),if_pos q2,wr (by omega)]
    rfl
   ·rw[if_neg (show ¬hp (l.getD r.toNat eN)>n by omega),if_neg q2,rP hl ha]
    simp only[Option.bind_some]
    by_cases q3:kd (l.getD r.toNat eN)=1
    ·have e3:((l.getD r.toNat Run.zE).1==1)=true:=beq_iff_eq.2 q3
     rw[e3,cond_true,if_pos q3,A8 a0 a1 a2 a3 c a7 a8 a9 a10 hc (by rw[List.length_set];omega) hi]
     rfl
    ·have e3:((l.getD r.toNat Run.zE).1==1)=false:=beq_eq_false_iff_ne.2 q3
     rw[e3,cond_false,if_neg q3]
theorem ux{l:List ag}{its:List ak}(hc:c.length≤1000)(h:eC l)(hi:its.length≤1000)(r n:Int):f148 a0 a1 a2 a3 c l its a7 a8 a9 a10 r n=some (a0,a1,a2,a3,a7,a8,a9,a10,c,(cZ l its r n).1,(cZ l its r n).2,()):=by
 have hl:=h.len;unfold f148 cZ;rw[fj a0 a1 a2 a3 c a7 a8 a9 a10 hc (by omega) hi]
 simp only[Option.bind_some];rw[j0 a0 a1 a2 a3 c a7 a8 a9 a10];simp only[Option.bind_some];cases ha:alive l r with
 | false=>rw[if_pos (.inl rfl)];rfl
 | true =>
  have t:=h.taken ha;obtain⟨h0,h1,_⟩:=bS.1 ha;rw[Bool.not_true,cond_false,af]
  by_cases q:n<1
  ·rw[if_pos q,if_pos (.inr q)]
  ·have eh:(l.getD r.toNat Run.zE).2.2.2.2.2.1=hp (l.getD r.toNat eN):=rfl
   rw[if_neg q,if_neg (by simp only[reduceCtorEq,false_or];exact q),ao (by omega),cond_true,af,eh]
   by_cases q2:n<hp (l.getD r.toNat eN)
   ·rw[if_pos q2,if_pos q2,cond_true,wr (by omega)]
    rfl
   ·rw[if_neg q2,if_neg q2,Ch hl ha]
    simp only[Option.bind_some]
    by_cases q3:kd (l.getD r.toNat eN)=1
    ·have e3:((l.getD r.toNat Run.zE).1==1)=true:=beq_iff_eq.2 q3
     rw[e3,cond_true,if_pos q3,Ak a0 a1 a2 a3 c a7 a8 a9 a10 hc (by rw[List.length_set];omega) hi]
     rfl
    ·have e3:((l.getD r.toNat Run.zE).1==1)=false:=beq_eq_false_iff_ne.2 q3
     rw[e3,cond_false,if_neg q3];rfl
end
end Go.Proofs.YthdgahpomhnidaaGreat.Ft
namespace Go.Proofs.YthdgahpomhnidaaGreat.Ft
open Go Mx Pc Run Field Gen GenL Fl Wd
set_option maxHeartbeats 1000000
section
variable (a0 a1 a2 a3:Int) (c:List Int) (a7 a8 a9 a10:Int)
theorem te(its:List ak)(s:Int):0≤(jy its s).1∧(jy its s).1≤3∧0≤(jy its s).2∧(jy its s).2≤2:=by
 unfold jy;dsimp only;refine⟨?_,?_,?_,?_⟩<;>split<;>decide
theorem nP{l:List ag}(h:eC l)(its:List ak){r:Int}(ha:alive l r=true):0≤arm (l.getD r.toNat eN) its∧arm (l.getD r.toNat eN) its≤8∧0≤dN (l.getD r.toNat eN) its∧dN (l.getD r.toNat eN) its≤3:=by
 have t:=h.taken ha;have b:=te its (st (l.getD r.toNat eN));unfold arm dN;refine⟨?_,?_,?_,?_⟩<;>split<;>omega
theorem zO{l:List ag}(h:eC l)(its:List ak){r q:Int}(ha:alive l r=true)(hb:alive l q=true)(sd fr:Int):1≤gC sd fr r q l its∧gC sd fr r q l its≤100:=by
 have a:=nP h its ha;have b:=nP h its hb;have d:=(jZ 3 sd [fr,r,q,77] (by simp) (by decide) (by decide)).2
 unfold gC;omega
theorem oP{l:List ag}{its:List ak}(h:eC l)(hi:eV its){r:Int}(ha:alive l r=true):f182 a0 a1 a2 a3 c l its a7 a8 a9 a10 r=some (arm (l.getD r.toNat eN) its,dN (l.getD r.toNat eN) its,()):=by
 obtain⟨h0,h1,_⟩:=bS.1 ha;have t:=h.taken ha;have b:=te its (st (l.getD r.toNat eN));unfold f182 arm dN;rw[ao (by omega),cond_true]
 have eS:(l.getD r.toNat Run.zE).2.2.1=st (l.getD r.toNat eN):=rfl;have eA:(l.getD r.toNat Run.zE).2.2.2.2.2.2.2.1=c8 (l.getD r.toNat eN):=rfl;have eD:(l.getD r.toNat Run.zE).2.2.2.2.2.2.2.2.1=df (l.getD r.toNat eN):=rfl
 by_cases q3:kd (l.getD r.toNat eN)=1
 ·have e3:((l.getD r.toNat Run.zE).1==1)=true:=beq_iff_eq.2 q3
  rw[e3,cond_true,if_pos q3,if_pos q3,BJ a0 a1 a2 a3 c a7 a8 a9 a10 hi,eS];simp only[Option.bind_some,Sum.elim_inl];rw[eA,eD,wr (by omega),wr (by omega)]
 ·have e3:((l.getD r.toNat Run.zE).1==1)=false:=beq_eq_false_iff_ne.2 q3
  rw[e3,cond_false,if_neg q3,if_neg q3];simp only[Option.bind_some,Sum.elim_inl];rw[eA,eD,wr (by omega),wr (by omega),Int.add_zero,Int.add_zero]
theorem Gs{l:List ag}{its:List ak}(hc:c.length≤1000)(h:eC l)(hi:eV its)(a b:Int):f160 a0 a1 a2 a3 c l its a7 a8 a9 a10 a b=some (a0,a1,a2,a3,a7,a8,a9,a10,c,(dT a0 a1 l its a b).1,(dT a0 a1 l its a b).2,()):=by
 have hl:=h.len;have hil:=hi.1;unfold f160 dT;rw[qy a0 a1 a2 a3 c a7 a8 a9 a10 hl];simp only[Option.bind_some];cases ha:alive l a with
 | false =>
  rw[if_pos (.inl rfl),Bool.not_false,cond_true,mf a0 a1 a2 a3 c a7 a8 a9 a10 hc (by omega) hil]
  rfl
 | true =>
  rw[Bool.not_true,cond_false,qy a0 a1 a2 a3 c a7 a8 a9 a10 hl];simp only[Option.bind_some];cases hb:alive l b with
  | false =>
   rw[if_pos (.inr rfl),Bool.not_false,cond_true,mf a0 a1 a2 a3 c a7 a8 a9 a10 hc (by omega) hil]
   rfl
  | true =>
   have bb:=zO h its ha hb a0 a1;have aa:=nP h its ha;have ab:=nP h its hb;have d:=jZ 3 a0 [a1,a,b,77] (by simp) (by decide) (by decide)
   obtain⟨p0,p1,_⟩:=bS.1 ha;have eB:IntKind.wrap .i64 (cz 1 (IntKind.wrap .i64 (arm (l.getD a.toNat eN) its-dN (l.getD b.toNat eN) its))+dz 3 a0 [a1,a,b,77])=gC a0 a1 a b l its:=by
    rw[wr (x:=arm (l.getD a.toNat eN) its-dN (l.getD b.toNat eN) its) (by omega),gw,wr (by omega)]
    rfl
   rw[if_neg (by simp),Bool.not_true,cond_false,oP a0 a1 a2 a3 c a7 a8 a9 a10 h hi ha]
   simp only[Option.bind_some];rw[oP a0 a1 a2 a3 c a7 a8 a9 a10 h hi hb];simp only[Option.bind_some];rw[ao (by omega),cond_true,j1,d.1]
   simp only[Option.bind_some];rw[eB,xk a0 a1 a2 a3 c a7 a8 a9 a10 hc h hil];simp only[Option.bind_some];have hh:=rK h hi b (gC a0 a1 a b l its);generalize cZ l its b (gC a0 a1 a b l its)=p at *
   obtain⟨l1,its1⟩:=p;dsimp only at hh ⊢;rw[qy a0 a1 a2 a3 c a7 a8 a9 a10 hh.1.len];simp only[Option.bind_some];cases h1:alive l1 b with
   | false=>rw[if_pos rfl];rfl
   | true =>
    have t:=hh.1.taken h1;obtain⟨q0,q1,_⟩:=bS.1 h1;rw[if_neg (by simp),Bool.not_true,cond_false,ao (by omega),cond_true]
    unfold leave;have eP:(l1.getD b.toNat Run.zE).2.2.2.2.2.2.2.2.2.1=po (l1.getD b.toNat eN):=rfl;have eS:(l1.getD b.toNat Run.zE).2.2.2.2.2.2.2.2.2.2=sn (l1.getD b.toNat eN):=rfl
    by_cases k4:kd (l.getD a.toNat eN)=4
    ·have e4:((l.getD a.toNat Run.zE).1==4)=true:=beq_iff_eq.2 k4
     rw[e4,cond_true,if_pos k4];simp only[Option.bind_some,Sum.elim_inl];rw[eP,wr (x:=po (l1.getD b.toNat eN)+3) (by omega),br]
     rfl
    ·have e4:((l.getD a.toNat Run.zE).1==4)=false:=beq_eq_false_iff_ne.2 k4
     rw[e4,cond_false,if_neg k4]
     by_cases k3:kd (l.getD a.toNat eN)=3
     ·have e3:((l.getD a.toNat Run.zE).1==3)=true:=beq_iff_eq.2 k3
      have d2:=jZ 4 a0 [a1,a,b,78] (by simp) (by decide) (by decide)
      rw[e3,cond_true,if_pos k3,j1,d2.1];simp only[Option.bind_some]
      by_cases z:dz 4 a0 [a1,a,b,78]=0
      ·have ez:(dz 4 a0 [a1,a,b,78] !=0)=false:=by rw[z];rfl
       rw[ez,cond_false,if_pos z];simp only[Option.bind_some,Sum.elim_inl];rw[eS,wr (x:=sn (l1.getD b.toNat eN)+2) (by omega),br]
       rfl
      ·have ez:(dz 4 a0 [a1,a,b,78] !=0)=true:=bne_iff_ne.2 z
       rw[ez,cond_true,if_neg z];rfl
     ·have e3:((l.getD a.toNat Run.zE).1==3)=false:=beq_eq_false_iff_ne.2 k3
      rw[e3,cond_false,if_neg k3];rfl
theorem DA{l:List ag}{its:List ak}(hc:c.length≤1000)(h:eC l)(hi:eV its)(a b:Int):f139 a0 a1 a2 a3 c l its a7 a8 a9 a10 a b=some (a0,a1,a2,a3,a7,a8,a9,a10,c,(dT a0 a1 l its a b).1,(dT a0 a1 l its a b).2,()):=by
 have hl:=h.len;have hil:=hi.1;refine OK.eq ?_;unfold f139 dT;rw[j0 a0 a1 a2 a3 c a7 a8 a9 a10];simp only[Option.bind_some];cases ha:alive l a with
 | false =>
  rw[if_pos (.inl rfl),Bool.not_false,cond_true,fj a0 a1 a2 a3 c a7 a8 a9 a10 hc (by omega) hil]
  exact OK.ret rfl
 | true =>
  rw[Bool.not_true,cond_false,j0 a0 a1 a2 a3 c a7 a8 a9 a10];simp only[Option.bind_some];cases hb:alive l b with
  | false =>
   rw[if_pos (.inr rfl),Bool.not_false,cond_true,fj a0 a1 a2 a3 c a7 a8 a9 a10 hc (by omega) hil]
   exact OK.ret rfl
  | true =>
   have bb:=zO h its ha hb a0 a1;have aa:=nP h its ha;have ab:=nP h its hb;have ta:=h.taken ha;have tb:=h.taken hb;have d:=jZ 3 a0 [a1,a,b,77] (by simp) (by decide) (by decide)
   obtain⟨p0,p1,_⟩:=bS.1 ha;obtain⟨r0,r1,_⟩:=bS.1 hb;have ba:=te its (st (l.getD a.toNat eN));have bd:=te its (st (l.getD b.toNat eN));rw[if_neg (by simp),Bool.not_true,cond_false,ao (i:=a) (by omega),ao (i:=b) (by omega),cond_true,cond_true]
   have eA:(l.getD a.toNat Run.zE).2.2.2.2.2.2.2.1=c8 (l.getD a.toNat eN):=rfl;have eD:(l.getD b.toNat Run.zE).2.2.2.2.2.2.2.2.1=df (l.getD b.toNat eN):=rfl;have eSa:(l.getD a.toNat Run.zE).2.2.1=st (l.getD a.toNat eN):=rfl;have eSb:(l.getD b.toNat Run.zE).2.2.1=st (l.getD b.toNat eN):=rfl;have eB:IntKind.wrap .i64 (cz 1 (IntKind.wrap .i64 (arm (l.getD a.toNat eN) its-dN (l.getD b.toNat eN) its))+dz 3 a0 [a1,a,b,77])=gC a0 a1 a b l its:=by
    rw[wr (x:=arm (l.getD a.toNat eN) its-dN (l.getD b.toNat eN) its) (by omega),gw,wr (by omega)]
    rfl
   refine OK.aD (R:=fun z=>z=Sum.inl (a,b,arm (l.getD a.toNat eN) its,df (l.getD b.toNat eN),a0,a1,a2,a3,c,l,its,a7,a8,a9,a10,0,0,0,0,0,0,0,0,(l.getD a.toNat eN).1,(l.getD a.toNat eN).2.1,(l.getD a.toNat eN).2.2.1,(l.getD a.toNat eN).2.2.2.1,(l.getD a.toNat eN).2.2.2.2.1,(l.getD a.toNat eN).2.2.2.2.2.1,(l.getD a.toNat eN).2.2.2.2.2.2.1,(l.getD a.toNat eN).2.2.2.2.2.2.2.1,(l.getD a.toNat eN).2.2.2.2.2.2.2.2.1,(l.getD a.toNat eN).2.2.2.2.2.2.2.2.2.1,(l.getD a.toNat eN).2.2.2.2.2.2.2.2.2.2,(l.getD b.toNat eN).1,(l.getD b.toNat eN).2.1,(l.getD b.toNat eN).2.2.1,(l.getD b.toNat eN).2.2.2.1,(l.getD b.toNat eN).2.2.2.2.1,(l.getD b.toNat eN).2.2.2.2.2.1,(l.getD b.toNat eN).2.2.2.2.2.2.1,(l.getD b.toNat eN).2.2.2.2.2.2.2.1,(l.getD b.toNat eN).2.2.2.2.2.2.2.2.1,(l.getD b.toNat eN).2.2.2.2.2.2.2.2.2.1,(l.getD b.toNat eN).2.2.2.2.2.2.2.2.2.2,())) ?_ ?_
   ·by_cases k1:kd (l.getD a.toNat eN)=1
    ·have e1:((l.getD a.toNat Run.zE).1==1)=true:=beq_iff_eq.2 k1
     have eR:arm (l.getD a.toNat eN) its=c8 (l.getD a.toNat eN)+(jy its (st (l.getD a.toNat eN))).1:=if_pos k1;rw[e1,cond_true,sk a0 a1 a2 a3 c a7 a8 a9 a10 hil,eSa];simp only[Option.bind_some];rw[eA,wr (by omega),←eR]
     exact OK.ret rfl
    ·have e1:((l.getD a.toNat Run.zE).1==1)=false:=beq_eq_false_iff_ne.2 k1
     have eR:arm (l.getD a.toNat eN) its=c8 (l.getD a.toNat eN):=if_neg k1;rw[e1,cond_false,eR];exact OK.ret rfl
   ·rintro z rfl
    simp only[Sum.elim_inl];refine OK.aD (R:=fun z=>z=Sum.inl (a,b,arm (l.getD a.toNat eN) its,dN (l.getD b.toNat eN) its,a0,a1,a2,a3,c,l,its,a7,a8,a9,a10,0,0,0,0,0,0,0,0,(l.getD a.toNat eN).1,(l.getD a.toNat eN).2.1,(l.getD a.toNat eN).2.2.1,(l.getD a.toNat eN).2.2.2.1,(l.getD a.toNat eN).2.2.2.2.1,(l.getD a.toNat eN).2.2.2.2.2.1,(l.getD a.toNat eN).2.2.2.2.2.2.1,(l.getD a.toNat eN).2.2.2.2.2.2.2.1,(l.getD a.toNat eN).2.2.2.2.2.2.2.2.1,(l.getD a.toNat eN).2.2.2.2.2.2.2.2.2.1,(l.getD a.toNat eN).2.2.2.2.2.2.2.2.2.2,())) ?_ ?_
    ·by_cases k1:kd (l.getD b.toNat eN)=1
     ·have e1:((l.getD b.toNat eN).1==1)=true:=beq_iff_eq.2 k1
      have eR:dN (l.getD b.toNat eN) its=df (l.getD b.toNat eN)+(jy its (st (l.getD b.toNat eN))).2:=if_pos k1;rw[e1,cond_true,sk a0 a1 a2 a3 c a7 a8 a9 a10 hil];simp only[Option.bind_some];have eW:IntKind.wrap .i64 (df (l.getD b.toNat eN)+(jy its (l.getD b.toNat eN).2.2.1).2)=dN (l.getD b.toNat eN) its:=by
       rw[eR,show (l.getD b.toNat eN).2.2.1=st (l.getD b.toNat eN) from rfl,wr (by omega)]
      rw[eW];exact OK.ret rfl
     ·have e1:((l.getD b.toNat eN).1==1)=false:=beq_eq_false_iff_ne.2 k1
      have eR:dN (l.getD b.toNat eN) its=df (l.getD b.toNat eN):=if_neg k1;rw[e1,cond_false,eR];exact OK.ret rfl
    ·rintro z rfl
     simp only[Sum.elim_inl];rw[d.1];simp only[Option.bind_some];rw[eB,ux a0 a1 a2 a3 c a7 a8 a9 a10 hc h hil];simp only[Option.bind_some];have hh:=rK h hi b (gC a0 a1 a b l its);generalize cZ l its b (gC a0 a1 a b l its)=p at *
     obtain⟨l1,its1⟩:=p;dsimp only at hh ⊢;rw[j0 a0 a1 a2 a3 c a7 a8 a9 a10];simp only[Option.bind_some];cases h1:alive l1 b with
     | false=>rw[if_pos rfl];exact OK.ret rfl
     | true =>
      have t:=hh.1.taken h1;obtain⟨q0,q1,_⟩:=bS.1 h1;have ir:ae b l1.length=true:=ao (by omega)
      have eP:(l1.getD b.toNat Run.zE).2.2.2.2.2.2.2.2.2.1=po (l1.getD b.toNat eN):=rfl;have eS:(l1.getD b.toNat Run.zE).2.2.2.2.2.2.2.2.2.2=sn (l1.getD b.toNat eN):=rfl;have eK:(l.getD a.toNat eN).1=kd (l.getD a.toNat eN):=rfl;rw[if_neg (by simp),Bool.not_true,cond_false]
      simp only[ir,cond_true];unfold leave
      by_cases k4:kd (l.getD a.toNat eN)=4
      ·have e4:((l.getD a.toNat eN).1==4)=true:=beq_iff_eq.2 k4
       have e3:((l.getD a.toNat eN).1==3)=false:=beq_eq_false_iff_ne.2 (by rw[eK,k4];decide)
       rw[e4,cond_true,if_pos k4];simp only[Option.bind_some,Sum.elim_inl];rw[e3,cond_false,eP,wr (x:=po (l1.getD b.toNat eN)+3) (by omega),br]
       exact OK.ret rfl
      ·have e4:((l.getD a.toNat eN).1==4)=false:=beq_eq_false_iff_ne.2 k4
       rw[e4,cond_false,if_neg k4];simp only[Option.bind_some,Sum.elim_inl]
       by_cases k3:kd (l.getD a.toNat eN)=3
       ·have e3:((l.getD a.toNat eN).1==3)=true:=beq_iff_eq.2 k3
        have d2:=jZ 4 a0 [a1,a,b,78] (by simp) (by decide) (by decide)
        rw[e3,cond_true,if_pos k3,d2.1];simp only[Option.bind_some,ir,cond_true]
        by_cases z:dz 4 a0 [a1,a,b,78]=0
        ·have ez:(dz 4 a0 [a1,a,b,78]==0)=true:=beq_iff_eq.2 z
         rw[ez,cond_true,if_pos z];simp only[Option.bind_some,Sum.elim_inl];rw[eS,wr (x:=sn (l1.getD b.toNat eN)+2) (by omega),br]
         exact OK.ret rfl
        ·have ez:(dz 4 a0 [a1,a,b,78]==0)=false:=beq_eq_false_iff_ne.2 z
         rw[ez,cond_false,if_neg z];exact OK.ret rfl
       ·have e3:((l.getD a.toNat eN).1==3)=false:=beq_eq_false_iff_ne.2 k3
        rw[e3,cond_false,if_neg k3];exact OK.ret rfl
theorem F2{l:List ag}{its:List ak}(hc:c.length≤1000)(h:eC l)(hi:eV its):f58 a0 a1 a2 a3 c l its a7 a8 a9 a10=some (a0,a1,a2,a3,a7,a8,a9,a10,c,(cR l its 32).1,(cR l its 32).2,()):=by
 have hl:=h.len;have hil:=hi.1;refine OK.eq ?_;unfold f58 f58.L1;rw[mf a0 a1 a2 a3 c a7 a8 a9 a10 hc (by omega) hil]
 simp only[Option.bind_some];have e32:((Int.toNat (aX (l.length:Int) 32)-0:Nat):Int)=32:=by rw[br];omega
 rw[decide_eq_true (by rw[br];omega),cond_true,e32]
 refine OK.loop (fun i:Nat=>(32,(i:Int),a0,a1,a2,a3,a7,a8,a9,a10,0,0,0,0,0,0,0,0,c,(cR l its i).1,(cR l its i).2,())) (fun i=>i≤32) (fun i=>32-i) (fun rec i hi' ih=>?_) 0 rfl (Nat.zero_le _) (by decide)
 dsimp only;rw[af]
 by_cases q:i<32
 ·have go:=ih (i+1) (by omega) (by omega) _ rfl
  rw[mm]at go;obtain⟨hL,hI,hN⟩:=tU h hi i;generalize cR l its i=p at *
  obtain⟨l1,its1⟩:=p;dsimp only at hL hI hN go ⊢;have hl1:=hL.len;rw[if_pos (by omega),qy a0 a1 a2 a3 c a7 a8 a9 a10 hl1]
  simp only[Option.bind_some];unfold kb at go;cases ha:alive l1 (i:Int) with
  | false =>
   rw[ha,if_pos rfl]at go;rw[Bool.not_false,cond_true,wr (by omega)]
   exact go
  | true =>
   have t:=hL.taken ha;rw[Int.toNat_natCast]at t;rw[ha,if_neg (by decide)]at go
   dsimp only at go;rw[Bool.not_true,cond_false,ao (by omega),cond_true,Int.toNat_natCast]
   have eS:(l1.getD i Run.zE).2.2.2.2.2.2.2.2.2.2=sn (l1.getD i eN):=rfl;refine OK.aD (R:=fun z=>z=Sum.inl ((i:Int),i,32,(i:Int),a0,a1,a2,a3,a7,a8,a9,a10,0,0,0,0,0,0,0,0,(if 0<sn (l1.getD i eN) then l1.set i (fI (l1.getD i eN) (sn (l1.getD i eN)-1)) else l1),c,its1,())) ?_ ?_
   ·rw[af,eS]
    by_cases z:0<sn (l1.getD i eN)
    ·rw[if_pos (show sn (l1.getD i eN)>0 from z),if_pos z,wr (by omega)]
     exact OK.ret rfl
    ·rw[if_neg (show ¬sn (l1.getD i eN)>0 from z),if_neg z]
     exact OK.ret rfl
   ·rintro z rfl
    simp only[Sum.elim_inl];have hl2:eC (if 0<sn (l1.getD i eN) then l1.set i (fI (l1.getD i eN) (sn (l1.getD i eN)-1)) else l1):=by
     split
     ·refine hL.set _ (.inr ?_)
      show 1≤kd (l1.getD i eN)∧kd (l1.getD i eN)≤4∧1≤hp (l1.getD i eN)∧hp (l1.getD i eN)≤bE (l1.getD i eN)∧bE (l1.getD i eN)≤20∧0≤c8 (l1.getD i eN)∧c8 (l1.getD i eN)≤5∧0≤df (l1.getD i eN)∧df (l1.getD i eN)≤1∧0≤po (l1.getD i eN)∧po (l1.getD i eN)≤9∧0≤sn (l1.getD i eN)-1∧sn (l1.getD i eN)-1≤9;omega
     ·exact hL
    generalize (if 0<sn (l1.getD i eN) then l1.set i (fI (l1.getD i eN) (sn (l1.getD i eN)-1)) else l1)=l2 at *
    have eP:(l2.getD i Run.zE).2.2.2.2.2.2.2.2.2.1=po (l2.getD i eN):=rfl;have he:=hl2.tZ i q;rw[af,eP]
    by_cases z:0<po (l2.getD i eN)
    ·have bp:1≤kd (l2.getD i eN)∧kd (l2.getD i eN)≤4∧1≤hp (l2.getD i eN)∧hp (l2.getD i eN)≤bE (l2.getD i eN)∧bE (l2.getD i eN)≤20∧0≤c8 (l2.getD i eN)∧c8 (l2.getD i eN)≤5∧0≤df (l2.getD i eN)∧df (l2.getD i eN)≤1∧0≤po (l2.getD i eN)∧po (l2.getD i eN)≤9∧0≤sn (l2.getD i eN)∧sn (l2.getD i eN)≤9:=by
      rcases he with ⟨_,e⟩ | e
      ·rw[e]at z
       exact absurd z (by show ¬(0:Int)<0;decide)
      ·exact e
     have hl3:eC (l2.set i (qQ (l2.getD i eN) (po (l2.getD i eN)-1))):=hl2.set _ (.inr (by
      show 1≤kd (l2.getD i eN)∧kd (l2.getD i eN)≤4∧1≤hp (l2.getD i eN)∧hp (l2.getD i eN)≤bE (l2.getD i eN)∧bE (l2.getD i eN)≤20∧0≤c8 (l2.getD i eN)∧c8 (l2.getD i eN)≤5∧0≤df (l2.getD i eN)∧df (l2.getD i eN)≤1∧0≤po (l2.getD i eN)-1∧po (l2.getD i eN)-1≤9∧0≤sn (l2.getD i eN)∧sn (l2.getD i eN)≤9;omega))
     rw[if_pos (show po (l2.getD i eN)>0 from z),wr (x:=po (l2.getD i eN)-1) (by omega),wr (x:=(i:Int)+1) (by omega)]
     rw[if_pos z]at go;have hx:=xk a0 a1 a2 a3 c a7 a8 a9 a10 hc hl3 hI.1 (i:Int) 1;refine OK.call hx ?_;exact go
    ·rw[if_neg (show ¬po (l2.getD i eN)>0 from z),wr (by omega)]
     rw[if_neg z]at go;exact go
 ·have:i=32:=by omega
  subst this;rw[if_neg (by omega)]
  exact OK.ret rfl
theorem Dv{l:List ag}{its:List ak}(hc:c.length≤1000)(h:eC l)(hi:eV its):f89 a0 a1 a2 a3 c l its a7 a8 a9 a10=some (a0,a1,a2,a3,a7,a8,a9,a10,c,(cR l its 32).1,(cR l its 32).2,()):=by
 have hl:=h.len;have hil:=hi.1;refine OK.eq ?_;unfold f89 f89.L1;rw[fj a0 a1 a2 a3 c a7 a8 a9 a10 hc (by omega) hil]
 simp only[Option.bind_some];refine OK.loop (fun i:Nat=>((i:Int),a0,a1,a2,a3,a7,a8,a9,a10,0,0,0,0,0,0,0,0,c,(cR l its i).1,(cR l its i).2,())) (fun i=>i≤32) (fun i=>32-i) (fun rec i hi' ih=>?_) 0 rfl (Nat.zero_le _) (by decide)
 dsimp only;rw[af];obtain⟨hL,hI,hN⟩:=tU h hi i;have hl1:=hL.len;rw[hl1]
 by_cases q:i<32
 ·have go:=ih (i+1) (by omega) (by omega) _ rfl
  rw[mm]at go;generalize cR l its i=p at *
  obtain⟨l1,its1⟩:=p;dsimp only at hL hI hN hl1 go ⊢;rw[if_pos (by omega),j0 a0 a1 a2 a3 c a7 a8 a9 a10]
  simp only[Option.bind_some];unfold kb at go;cases ha:alive l1 (i:Int) with
  | false =>
   rw[ha,if_pos rfl]at go;rw[Bool.not_false,cond_true,wr (by omega)]
   exact go
  | true =>
   have t:=hL.taken ha;rw[Int.toNat_natCast]at t;rw[ha,if_neg (by decide)]at go
   dsimp only at go;rw[Bool.not_true,cond_false];have eS:(l1.getD i Run.zE).2.2.2.2.2.2.2.2.2.2=sn (l1.getD i eN):=rfl;refine OK.aD (R:=fun z=>z=Sum.inl ((i:Int),a0,a1,a2,a3,a7,a8,a9,a10,0,0,0,0,0,0,0,0,c,(if 0<sn (l1.getD i eN) then l1.set i (fI (l1.getD i eN) (sn (l1.getD i eN)-1)) else l1),its1,())) ?_ ?_
   ·rw[ao (by omega),cond_true,cond_true,cond_true,Int.toNat_natCast,af,eS]
    by_cases z:0<sn (l1.getD i eN)
    ·rw[if_pos (show sn (l1.getD i eN)>0 from z),if_pos z,wr (by omega)]
     exact OK.ret rfl
    ·rw[if_neg (show ¬sn (l1.getD i eN)>0 from z),if_neg z]
     exact OK.ret rfl
   ·rintro z rfl
    simp only[Sum.elim_inl];have hl2:eC (if 0<sn (l1.getD i eN) then l1.set i (fI (l1.getD i eN) (sn (l1.getD i eN)-1)) else l1):=by
     split
     ·refine hL.set _ (.inr ?_)
      show 1≤kd (l1.getD i eN)∧kd (l1.getD i eN)≤4∧1≤hp (l1.getD i eN)∧hp (l1.getD i eN)≤bE (l1.getD i eN)∧bE (l1.getD i eN)≤20∧0≤c8 (l1.getD i eN)∧c8 (l1.getD i eN)≤5∧0≤df (l1.getD i eN)∧df (l1.getD i eN)≤1∧0≤po (l1.getD i eN)∧po (l1.getD i eN)≤9∧0≤sn (l1.getD i eN)-1∧sn (l1.getD i eN)-1≤9;omega
     ·exact hL
    generalize (if 0<sn (l1.getD i eN) then l1.set i (fI (l1.getD i eN) (sn (l1.getD i eN)-1)) else l1)=l2 at *
    have eP:(l2.getD i Run.zE).2.2.2.2.2.2.2.2.2.1=po (l2.getD i eN):=rfl;have he:=hl2.tZ i q;have hl2l:=hl2.len;rw[ao (by omega),cond_true,cond_true,cond_true,Int.toNat_natCast,af,eP]
    by_cases z:0<po (l2.getD i eN)
    ·have bp:1≤kd (l2.getD i eN)∧kd (l2.getD i eN)≤4∧1≤hp (l2.getD i eN)∧hp (l2.getD i eN)≤bE (l2.getD i eN)∧bE (l2.getD i eN)≤20∧0≤c8 (l2.getD i eN)∧c8 (l2.getD i eN)≤5∧0≤df (l2.getD i eN)∧df (l2.getD i eN)≤1∧0≤po (l2.getD i eN)∧po (l2.getD i eN)≤9∧0≤sn (l2.getD i eN)∧sn (l2.getD i eN)≤9:=by
      rcases he with ⟨_,e⟩ | e
      ·rw[e]at z
       exact absurd z (by show ¬(0:Int)<0;decide)
      ·exact e
     have hl3:eC (l2.set i (qQ (l2.getD i eN) (po (l2.getD i eN)-1))):=hl2.set _ (.inr (by
      show 1≤kd (l2.getD i eN)∧kd (l2.getD i eN)≤4∧1≤hp (l2.getD i eN)∧hp (l2.getD i eN)≤bE (l2.getD i eN)∧bE (l2.getD i eN)≤20∧0≤c8 (l2.getD i eN)∧c8 (l2.getD i eN)≤5∧0≤df (l2.getD i eN)∧df (l2.getD i eN)≤1∧0≤po (l2.getD i eN)-1∧po (l2.getD i eN)-1≤9∧0≤sn (l2.getD i eN)∧sn (l2.getD i eN)≤9;omega))
     rw[if_pos (show po (l2.getD i eN)>0 from z),wr (x:=po (l2.getD i eN)-1) (by omega),wr (x:=(i:Int)+1) (by omega)]
     rw[if_pos z]at go;have hx:=ux a0 a1 a2 a3 c a7 a8 a9 a10 hc hl3 hI.1 (i:Int) 1;refine OK.call hx ?_;exact go
    ·rw[if_neg (show ¬po (l2.getD i eN)>0 from z),wr (by omega)]
     rw[if_neg z]at go;exact go
 ·have:i=32:=by omega
  subst this;rw[if_neg (by omega)]
  exact OK.ret rfl
end
end Go.Proofs.YthdgahpomhnidaaGreat.Ft
namespace Go.Proofs.YthdgahpomhnidaaGreat.Ft
open Go Mx Pc Run Field Gen GenL Fl Wd
set_option maxHeartbeats 1000000
def oI:Option Nat→Int
 | some i=>(i:Int)
 | none=>-1
def cE(x y:Int)(e:ag):Bool:=kd e !=0&&(ex e==x&&ey e==y)
def cg(l:List ag)(x y:Int):Int:=oI ((List.range l.length).find? fun i=>cE x y (l.getD i eN))
def bC(s:Int)(e:ag):Bool:=kd e==1&&st e==s
def ai(l:List ag)(s:Int):Int:=oI ((List.range l.length).find? fun i=>bC s (l.getD i eN))
theorem du{p:Nat→Bool}{n:Nat}:oI ((List.range n).find? p)<0↔∀i,i<n→p i=false:=by
 cases h:(List.range n).find? p with
 | none =>
  exact⟨fun _ i hi=>by simpa using List.find?_range_eq_none.1 h i hi,fun _=>(by decide:(-1:Int)<0)⟩
 | some k =>
  obtain⟨h1,h2,_⟩:=List.find?_range_eq_some.1 h;refine⟨fun q=>absurd q (by show ¬(k:Int)<0;omega),fun q=>?_⟩
  rw[q k (List.mem_range.1 h2)]at h1;cases h1
theorem dX{p:Nat→Bool}{n:Nat}(h:¬oI ((List.range n).find? p)<0):∃k,k<n∧oI ((List.range n).find? p)=k∧p k=true∧∀j,j<k→p j=false:=by
 cases e:(List.range n).find? p with
 | none=>rw[e]at h;exact absurd (by decide:(-1:Int)<0) h
 | some k =>
  obtain⟨h1,h2,h3⟩:=List.find?_range_eq_some.1 e;exact⟨k,List.mem_range.1 h2,rfl,h1,fun j hj=>by simpa using h3 j hj⟩
theorem nv(l:List ag)(hl:l.length≤100000)(x y:Int):f91 l x y=some (cg l x y,()):=by
 unfold f91 f91.L1 cg;refine(it_find (x:=(l,x,y,0,())) (fun i=>cE x y (l.getD i eN)) l.length (fun i:Nat=>(l,x,y,(i:Int),())) (fun i=>some ((i:Int),())) (some (-1,())) (fun rec i hi=>?_) (by omega) rfl).trans ?_
 rotate_left
 ·cases (List.range l.length).find? fun i=>cE x y (l.getD i eN)<;>rfl
 ·dsimp only
  rw[af]
  by_cases c:i<l.length
  ·rw[if_pos c,if_pos (by omega),ao (by omega),wr (by omega),Int.toNat_natCast]
   simp only[cond_true];unfold cE kd ex ey;cases (l.getD i Run.zE).1 !=0<;>cases (l.getD i Run.zE).2.2.2.1==x<;>cases (l.getD i Run.zE).2.2.2.2.1==y<;>rfl
  ·rw[if_neg c,if_neg (by omega)]
theorem ga(l:List ag)(hl:l.length≤100000)(s:Int):f21 l s=some (ai l s,()):=by
 unfold f21 f21.L1 ai;refine(it_find (x:=(l,s,0,())) (fun i=>bC s (l.getD i eN)) l.length (fun i:Nat=>(l,s,(i:Int),())) (fun i=>some ((i:Int),())) (some (-1,())) (fun rec i hi=>?_) (by omega) rfl).trans ?_
 rotate_left
 ·cases (List.range l.length).find? fun i=>bC s (l.getD i eN)<;>rfl
 ·dsimp only
  rw[af]
  by_cases c:i<l.length
  ·rw[if_pos c,if_pos (by omega),ao (by omega),wr (by omega),Int.toNat_natCast]
   simp only[cond_true];unfold bC kd st;cases (l.getD i Run.zE).1==1<;>cases (l.getD i Run.zE).2.2.1==s<;>rfl
  ·rw[if_neg c,if_neg (by omega)]
def firstFree(l:List ag):Option Nat:=(List.range 32).find? fun i=>kd (l.getD i eN)==0
def nH(e:ag)(g:Int):ag:=(e.1,g,e.2.2.1,e.2.2.2.1,e.2.2.2.2.1,e.2.2.2.2.2.1,e.2.2.2.2.2.2.1,e.2.2.2.2.2.2.2.1,e.2.2.2.2.2.2.2.2.1,e.2.2.2.2.2.2.2.2.2.1,e.2.2.2.2.2.2.2.2.2.2)
theorem zt{l:List ag}(hl:l.length=32)(e:ag)(hk:1≤kd e∧kd e≤4) :
  f133 l e.1 e.2.1 e.2.2.1 e.2.2.2.1 e.2.2.2.2.1 e.2.2.2.2.2.1 e.2.2.2.2.2.2.1 e.2.2.2.2.2.2.2.1 e.2.2.2.2.2.2.2.2.1 e.2.2.2.2.2.2.2.2.2.1 e.2.2.2.2.2.2.2.2.2.2 =
   match firstFree l with
   | some i=>some ((i:Int),0,l.set i (nH e (Int.tmod (IntKind.wrap .i64 (gn (l.getD i eN)+1)) 256)),())
   | none=>some (0,5,[],()):=by
 unfold kd at hk;unfold f133 f133.L1 firstFree;rw[af,if_neg (by omega),af,if_neg (by omega)]
 refine(congrArg (fun o=>Option.bind o _) (it_find (x:=(l,0,e.1,e.2.1,e.2.2.1,e.2.2.2.1,e.2.2.2.2.1,e.2.2.2.2.2.1,e.2.2.2.2.2.2.1,e.2.2.2.2.2.2.2.1,e.2.2.2.2.2.2.2.2.1,e.2.2.2.2.2.2.2.2.2.1,e.2.2.2.2.2.2.2.2.2.2,())) (fun i=>kd (l.getD i eN)==0) 32 (fun i:Nat=>(l,(i:Int),e.1,e.2.1,e.2.2.1,e.2.2.2.1,e.2.2.2.2.1,e.2.2.2.2.2.1,e.2.2.2.2.2.2.1,e.2.2.2.2.2.2.2.1,e.2.2.2.2.2.2.2.2.1,e.2.2.2.2.2.2.2.2.2.1,e.2.2.2.2.2.2.2.2.2.2,())) (fun i=>some (Sum.inr ((i:Int),0,l.set i (nH e (Int.tmod (IntKind.wrap .i64 (gn (l.getD i eN)+1)) 256)),()))) (some (Sum.inl ())) (fun rec i hi=>?_) (by decide) rfl)).trans ?_
 ·dsimp only
  rw[af,af]
  by_cases c:i<32
  ·rw[if_pos c,if_pos (by omega),if_pos (by omega),ao (by omega),wr (x:=(i:Int)+1) (by omega),Int.toNat_natCast,decide_eq_true (by simp[aB];omega)]
   simp only[cond_true];unfold kd;cases (l.getD i Run.zE).1==0<;>rfl
  ·rw[if_neg c,if_neg (by omega)]
 ·cases (List.range 32).find? fun i=>kd (l.getD i eN)==0<;>rfl
theorem wM(a0 a1 a2 a3 a7 a8 a9 a10:Int)(c:List Int)(l:List ag)(its:List ak)(h1:l.length≤100000)(h2:its.length≤100000) :
  f25 a0 a1 a2 a3 c l its a7 a8 a9 a10 a0 a1 a2 a3 c l its a7 a8 a9 a10=some (true,()):=by
 have items:f25.L1 (0,a0,a1,a2,a3,c,l,its,a7,a8,a9,a10,a0,a1,a2,a3,c,l,its,a7,a8,a9,a10,())=some (true,()):=by
  refine OK.eq ?_;unfold f25.L1;refine OK.loop (fun i:Nat=>((i:Int),a0,a1,a2,a3,c,l,its,a7,a8,a9,a10,a0,a1,a2,a3,c,l,its,a7,a8,a9,a10,())) (fun i=>i≤its.length) (fun i=>its.length-i) (fun rec i hi ih=>?_) 0 rfl (Nat.zero_le _) (by omega)
  dsimp only;rw[af]
  by_cases q:(i:Int)<its.length
  ·rw[if_pos q,ao (by omega),cond_true,cond_true,wr (by omega)]
   simp only[beq_self_eq_true,Bool.and_self,Bool.not_true,cond_false];exact ih (i+1) (by omega) (by omega) _ rfl
  ·rw[if_neg q]
   exact OK.ret rfl
 refine OK.eq ?_;unfold f25 f25.L2;simp only[beq_self_eq_true,Bool.not_true,cond_false,bne_self_eq_false,Bool.and_self];refine OK.loop (fun i:Nat=>((i:Int),a0,a1,a2,a3,c,l,its,a7,a8,a9,a10,a0,a1,a2,a3,c,l,its,a7,a8,a9,a10,())) (fun i=>i≤l.length) (fun i=>l.length-i) (fun rec i hi ih=>?_) 0 rfl (Nat.zero_le _) (by omega)
 dsimp only;rw[af]
 by_cases q:(i:Int)<l.length
 ·rw[if_pos q,ao (by omega),cond_true,cond_true,wr (by omega)]
  simp only[beq_self_eq_true,Bool.and_self,Bool.not_true,cond_false];exact ih (i+1) (by omega) (by omega) _ rfl
 ·rw[if_neg q,items]
  exact OK.ret rfl
theorem iJ{c:List Int}{its:List ak}(h:aH c its):eV its:=⟨by have:=h.len;omega,fun i hi hw=>by
 have hl:=h.len;rcases h.kind i (by omega) with q | q
 ·rw[q]at hw
  exact absurd rfl hw
 ·omega⟩
theorem oT{c:List Int}{its:List ak}(h:aH c its)(s:Int):aH c (fi its s):=by
 have hl:=h.len;refine⟨by rw[kq];exact hl,fun i hi=>?_,fun i j hi hj hne he=>?_⟩
 ·rw[km]
  unfold dM;split
  ·exact .inl rfl
  ·exact h.kind i hi
 ·rw[km]at hne he
  rw[km]at he;unfold dM at hne he;split at hne
  ·exact absurd rfl hne
  ·rename_i q
   rw[if_neg q]at he;split at he
   ·rcases h.kind i hi with z | z
    ·exact absurd z hne
    ·have:=z.2.2.wh
     rw[he]at this;exact absurd this.1 (by decide)
   ·exact h.one i j hi hj hne he
end Go.Proofs.YthdgahpomhnidaaGreat.Ft
namespace Go.Proofs.YthdgahpomhnidaaGreat.Ft
open Go Mx Pc Run Field Gen GenL Fl Wd
set_option maxHeartbeats 1000000
theorem qD{p:Nat→Bool}{n:Nat}:-1≤oI ((List.range n).find? p)∧oI ((List.range n).find? p)<(n:Int):=by
 by_cases h:oI ((List.range n).find? p)<0
 ·cases e:(List.range n).find? p with
  | none=>exact⟨Int.le_refl _,by show (-1:Int)<n;omega⟩
  | some k=>rw[e]at h;exact absurd h (by show ¬(k:Int)<0;omega)
 ·obtain⟨k,h1,h2,_⟩:=dX h
  omega
theorem lv(l:List ag)(hl:l.length=32):f162 l=some (l,()):=by
 unfold f162;have e:aX ((l.length:Nat):Int) 32=32:=by rw[br];omega
 rw[e,decide_eq_true (by omega),cond_true,show Int.toNat 32=l.length by omega,List.take_length,List.drop_zero]
theorem gY(l:List ag)(hl:l.length=32)(s:Int):f97 l s=some (ai l s,()):=by
 unfold f97 f153 f153.L1 ai;rw[lv l hl];simp only[Option.bind_some];have key:=it_find (fuel:=100000000000000000000) (x:=(l,(l.length:Int),0,s,())) (step:=fun rec x=>bif decide (x.2.2.1<x.2.1) then bif ae x.2.2.1 x.1.length then Option.bind (f155 x.2.2.1 (x.1.getD x.2.2.1.toNat Run.zE).1 (x.1.getD x.2.2.1.toNat Run.zE).2.1 (x.1.getD x.2.2.1.toNat Run.zE).2.2.1 (x.1.getD x.2.2.1.toNat Run.zE).2.2.2.1 (x.1.getD x.2.2.1.toNat Run.zE).2.2.2.2.1 (x.1.getD x.2.2.1.toNat Run.zE).2.2.2.2.2.1 (x.1.getD x.2.2.1.toNat Run.zE).2.2.2.2.2.2.1 (x.1.getD x.2.2.1.toNat Run.zE).2.2.2.2.2.2.2.1 (x.1.getD x.2.2.1.toNat Run.zE).2.2.2.2.2.2.2.2.1 (x.1.getD x.2.2.1.toNat Run.zE).2.2.2.2.2.2.2.2.2.1 (x.1.getD x.2.2.1.toNat Run.zE).2.2.2.2.2.2.2.2.2.2 x.2.2.2.1) fun y0=>bif y0.1 then some (x.2.2.1,x.2.2.2.1,()) else rec (x.1,x.2.1,IntKind.wrap .i64 (x.2.2.1+1),x.2.2.2.1,()) else none else some (-1,x.2.2.2.1,())) (fun i=>bC s (l.getD i eN)) l.length (fun i:Nat=>(l,(l.length:Int),(i:Int),s,())) (fun i=>some ((i:Int),s,())) (some (-1,s,())) (fun rec i hi'=>by
  dsimp only;rw[af]
  by_cases q:i<l.length
  ·rw[if_pos (by omega),if_pos q,ao (by omega),cond_true,wr (by omega),Int.toNat_natCast]
   have ef:f155 (i:Int) (l.getD i eN).1 (l.getD i eN).2.1 (l.getD i eN).2.2.1 (l.getD i eN).2.2.2.1 (l.getD i eN).2.2.2.2.1 (l.getD i eN).2.2.2.2.2.1 (l.getD i eN).2.2.2.2.2.2.1 (l.getD i eN).2.2.2.2.2.2.2.1 (l.getD i eN).2.2.2.2.2.2.2.2.1 (l.getD i eN).2.2.2.2.2.2.2.2.2.1 (l.getD i eN).2.2.2.2.2.2.2.2.2.2 s=some (bC s (l.getD i eN),()):=by
    unfold f155 bC kd st;cases (l.getD i eN).1==1<;>rfl
   rw[ef];simp only[Option.bind_some];cases bC s (l.getD i eN)<;>rfl
  ·rw[if_neg (by omega),if_neg q]) (by omega) rfl
 refine(congrArg (fun z=>Option.bind z fun y0=>some (y0.1,())) key).trans ?_
 cases (List.range l.length).find? fun i=>bC s (l.getD i eN)<;>rfl
theorem j8(l:List ag)(hl:l.length=32)(px py:Int):f96 l px py=some (cg l px py,()):=by
 unfold f96 f153_1 f153_1.L1 cg;rw[lv l hl];simp only[Option.bind_some];have key:=it_find (fuel:=100000000000000000000) (x:=(l,(l.length:Int),0,px,py,())) (step:=fun rec x=>bif decide (x.2.2.1<x.2.1) then bif ae x.2.2.1 x.1.length then Option.bind (f154 x.2.2.1 (x.1.getD x.2.2.1.toNat Run.zE).1 (x.1.getD x.2.2.1.toNat Run.zE).2.1 (x.1.getD x.2.2.1.toNat Run.zE).2.2.1 (x.1.getD x.2.2.1.toNat Run.zE).2.2.2.1 (x.1.getD x.2.2.1.toNat Run.zE).2.2.2.2.1 (x.1.getD x.2.2.1.toNat Run.zE).2.2.2.2.2.1 (x.1.getD x.2.2.1.toNat Run.zE).2.2.2.2.2.2.1 (x.1.getD x.2.2.1.toNat Run.zE).2.2.2.2.2.2.2.1 (x.1.getD x.2.2.1.toNat Run.zE).2.2.2.2.2.2.2.2.1 (x.1.getD x.2.2.1.toNat Run.zE).2.2.2.2.2.2.2.2.2.1 (x.1.getD x.2.2.1.toNat Run.zE).2.2.2.2.2.2.2.2.2.2 x.2.2.2.1 x.2.2.2.2.1) fun y0=>bif y0.1 then some (x.2.2.1,x.2.2.2.1,x.2.2.2.2.1,()) else rec (x.1,x.2.1,IntKind.wrap .i64 (x.2.2.1+1),x.2.2.2.1,x.2.2.2.2.1,()) else none else some (-1,x.2.2.2.1,x.2.2.2.2.1,())) (fun i=>cE px py (l.getD i eN)) l.length (fun i:Nat=>(l,(l.length:Int),(i:Int),px,py,())) (fun i=>some ((i:Int),px,py,())) (some (-1,px,py,())) (fun rec i hi'=>by
  dsimp only;rw[af]
  by_cases q:i<l.length
  ·rw[if_pos (by omega),if_pos q,ao (by omega),cond_true,wr (by omega),Int.toNat_natCast]
   have ef:f154 (i:Int) (l.getD i eN).1 (l.getD i eN).2.1 (l.getD i eN).2.2.1 (l.getD i eN).2.2.2.1 (l.getD i eN).2.2.2.2.1 (l.getD i eN).2.2.2.2.2.1 (l.getD i eN).2.2.2.2.2.2.1 (l.getD i eN).2.2.2.2.2.2.2.1 (l.getD i eN).2.2.2.2.2.2.2.2.1 (l.getD i eN).2.2.2.2.2.2.2.2.2.1 (l.getD i eN).2.2.2.2.2.2.2.2.2.2 px py=some (cE px py (l.getD i eN),()):=by
    unfold f154 cE kd ex ey;rw[Bool.and_true];cases (l.getD i eN).1 !=0<;>rfl
   rw[ef];simp only[Option.bind_some];cases cE px py (l.getD i eN)<;>rfl
  ·rw[if_neg (by omega),if_neg q]) (by omega) rfl
 refine(congrArg (fun z=>Option.bind z fun y0=>some (y0.1,())) key).trans ?_
 cases (List.range l.length).find? fun i=>cE px py (l.getD i eN)<;>rfl
def bo(its:List ak)(s:Int):Int:=oI ((List.range 4).find? fun b:Nat=>decide (aA its 2 s b<0))
def cw(its:List ak)(s lo hi:Int)(b:Nat):Bool:=decide (0≤aA its 2 s b)&&(decide (lo≤(its.getD (aA its 2 s b).toNat iN).1)&&decide ((its.getD (aA its 2 s b).toNat iN).1≤hi))
def hold(its:List ak)(s lo hi:Int):Int:=match (List.range 4).find? (cw its s lo hi) with
 | some b=>aA its 2 s b
 | none=>-1
theorem dS(its:List ak)(w a b:Int):-1≤aA its w a b∧aA its w a b<its.length:=by
 by_cases h:aA its w a b<0
 ·unfold aA at h ⊢
  cases e:(List.range its.length).find? fun i=>bN w a b (its.getD i iN) with
  | none=>exact⟨Int.le_refl _,by show (-1:Int)<_;omega⟩
  | some k=>rw[e]at h;exact absurd h (by show ¬(k:Int)<0;omega)
 ·obtain⟨k,h1,h2,_⟩:=j7 h
  omega
theorem o9(its:List ak)(hl:its.length≤1000)(s:Int):f137 its s=some (bo its s,()):=by
 unfold f137 f137.L1 bo;refine(it_find (x:=(its,s,0,())) (fun b:Nat=>decide (aA its 2 s b<0)) 4 (fun b:Nat=>(its,s,(b:Int),())) (fun b=>some ((b:Int),())) (some (-1,())) (fun rec b hb=>?_) (by omega) rfl).trans ?_
 rotate_left
 ·cases (List.range 4).find? fun b:Nat=>decide (aA its 2 s b<0)<;>rfl
 ·dsimp only
  rw[af]
  by_cases q:b<4
  ·rw[if_pos (by omega),if_pos q,fy its (by omega),wr (by omega)]
   simp only[Option.bind_some];rw[cH];rfl
  ·rw[if_neg (by omega),if_neg q]
theorem lA(its:List ak)(hl:its.length≤1000)(s lo hi:Int):f142 its s lo hi=some (hold its s lo hi,()):=by
 unfold f142 f142.L1 hold;refine(it_find (x:=(its,s,lo,hi,0,())) (cw its s lo hi) 4 (fun b:Nat=>(its,s,lo,hi,(b:Int),())) (fun b=>some (aA its 2 s b,())) (some (-1,())) (fun rec b hb=>?_) (by omega) rfl).trans ?_
 rotate_left
 ·cases (List.range 4).find? (cw its s lo hi)<;>rfl
 ·dsimp only
  rw[af]
  by_cases q:b<4
  ·rw[if_pos (by omega),if_pos q,fy its (by omega),wr (by omega)]
   simp only[Option.bind_some];have ib:=dS its 2 s b;unfold cw;rw[af]
   by_cases h0:aA its 2 s b≥0
   ·have h0':0≤aA its 2 s b:=h0
    rw[if_pos h0,ao (by omega),decide_eq_true h0']
    simp only[cond_true,Bool.true_and];rw[af,af]
    by_cases h1:lo≤(its.getD (aA its 2 s b).toNat iN).1
    ·by_cases h2:(its.getD (aA its 2 s b).toNat iN).1≤hi
     ·rw[if_pos (show (its.getD (aA its 2 s b).toNat (0,0,0,0)).1≥lo from h1),if_pos (show (its.getD (aA its 2 s b).toNat (0,0,0,0)).1≤hi from h2),decide_eq_true h1,decide_eq_true h2];rfl
     ·rw[if_pos (show (its.getD (aA its 2 s b).toNat (0,0,0,0)).1≥lo from h1),if_neg (show ¬(its.getD (aA its 2 s b).toNat (0,0,0,0)).1≤hi from h2),decide_eq_true h1,decide_eq_false h2];rfl
    ·rw[if_neg (show ¬(its.getD (aA its 2 s b).toNat (0,0,0,0)).1≥lo from h1),decide_eq_false h1];rfl
   ·have h0':¬0≤aA its 2 s b:=h0
    rw[if_neg h0,decide_eq_false h0'];rfl
  ·rw[if_neg (by omega),if_neg q]
theorem lV(its:List ak)(hl:its.length≤1000)(s:Int):f134 its s=some (hold its s 1 1,()):=by
 unfold f134;rw[lA its hl];rfl
theorem vL(l:List Int)(hl:∀i,0≤l.getD i 0∧l.getD i 0<256)(v:Int)(hv:0≤v∧v<256):fD l v=match (List.range l.length).find? fun i:Nat=>l.getD i 0==v with | some i=>(i:Int) | none=>-1:=by
 have hs:(ByteArray.mk (Go.Lib.bytesOf l).toArray).size=l.length:=by
  show (Go.Lib.bytesOf l).toArray.size=_;simp[Go.Lib.bytesOf]
 have hp:∀i,i<l.length→((ByteArray.mk (Go.Lib.bytesOf l).toArray)[i]! == v.toNat.toUInt8)=(l.getD i 0==v):=by
  intro i hi;have e:(ByteArray.mk (Go.Lib.bytesOf l).toArray)[i]! = UInt8.ofNat (l.getD i 0).toNat:=by
   rw[getElem!_pos _ i (by rw[hs];exact hi)]
   show (Go.Lib.bytesOf l).toArray[i]'_=_;simp[Go.Lib.bytesOf,List.getD_eq_getElem?_getD,List.getElem?_eq_getElem hi]
  have b:=hl i;rw[e]
  by_cases q:l.getD i 0=v
  ·rw[q,beq_self_eq_true,beq_self_eq_true]
  ·rw[beq_eq_false_iff_ne.2 q,beq_eq_false_iff_ne]
   intro z;have z2:=congrArg UInt8.toNat z;have a1:(UInt8.ofNat (l.getD i 0).toNat).toNat=(l.getD i 0).toNat:=UInt8.toNat_ofNat_of_lt' (by show _<256;omega)
   have a2:(v.toNat.toUInt8).toNat=v.toNat:=UInt8.toNat_ofNat_of_lt' (by show _<256;omega)
   rw[a1,a2]at z2;omega
 have main:∀(L:List Nat),(∀i∈L,i<l.length)→L.find? (fun i=>(ByteArray.mk (Go.Lib.bytesOf l).toArray)[i]! == v.toNat.toUInt8)=L.find? fun i:Nat=>l.getD i 0==v:=by
  intro L
  induction L with
  | nil=>intro _;rfl
  | cons a L ih =>
   intro h;rw[List.find?_cons,List.find?_cons,hp a (h a List.mem_cons_self),ih fun i hi=>h i (List.mem_cons_of_mem _ hi)]
 unfold fD;rw[hs,main _ fun i hi=>List.mem_range.1 hi]
 rfl
theorem qV(c:List Int)(hc:CB c)(hl:c.length=384)(v:Int)(hv:0≤v∧v≤255):f13 c v=some (gi c v,()):=by
 unfold f13;have e:Int.toNat (aX (c.length:Int) 384)=384:=by rw[br];omega
 have e2:IntKind.wrap .u8 v=v:=by
  have:IntKind.wrap .u8 v=v%256:=by simp[IntKind.wrap,IntKind.bits,IntKind.signed]
  omega
 rw[af,if_neg (by omega),af,if_neg (by omega),decide_eq_true (by rw[br];omega),cond_true,e,e2,List.drop_zero,List.take_of_length_le (by omega)]
 have eF:f40 c v=some (fD c v,()):=rfl;rw[eF];simp only[Option.bind_some];rw[vL c hc v (by omega),hl]
 rfl
end Go.Proofs.YthdgahpomhnidaaGreat.Ft
namespace Go.Proofs.YthdgahpomhnidaaGreat.Nav
open Go Mx Pc Run Field Gen
theorem Ab(n:Nat)(hn:n≤3):f131 0 (-1) (n:Int)=some (ddx n,bf n,()):=by
 refine OK.eq ?_;unfold f131 f131.L1;have e:Int.tmod (IntKind.wrap .i64 (Int.tmod (n:Int) 4+4)) 4=n:=by
  rw[Int.tmod_eq_emod_of_nonneg (a:=(n:Int)) (by omega),wr (by omega),Int.tmod_eq_emod_of_nonneg (by omega)];omega
 rw[e];refine OK.loop (fun j:Nat=>(ddx j,bf j,(n:Int),(j:Int),())) (fun j=>j≤n) (fun j=>n-j) (fun rec j hj ih=>?_) 0 rfl (Nat.zero_le _) (by omega)
 dsimp only at hj ih ⊢;rw[af]
 by_cases q:(j:Int)<n
 ·rw[if_pos q,wr (by omega)]
  have k:∀j:Nat,j<3→(small (ddx j)&&small (bf j))=true∧-bf j=ddx (j+1)∧ddx j=bf (j+1):=by decide
  obtain⟨k1,k2,k3⟩:=k j (by omega)
  rw[k1,cond_true];exact ih (j+1) (by omega) (by omega) _ (by rw[k2,←k3];rfl)
 ·have e:j=n:=by omega
  rw[if_neg q];subst e;exact OK.ret rfl
theorem qH(j:Nat)(hj:j<4):f78 (1+(j:Int))=some (ddx j,bf j,()):=by
 unfold f78;have e:1+(j:Int)-1=j:=by omega
 rw[af,af,if_neg (by omega),if_neg (by omega),wr (by omega),e,Ab j (by omega)]
 match j,hj with
 | 0,_=>rfl
 | 1,_=>rfl
 | 2,_=>rfl
 | 3,_=>rfl
theorem lk(j:Nat)(hj:j<4):f135 (1+(j:Int))=some (ddx j,bf j,()):=by
 match j,hj with
 | 0,_=>rfl
 | 1,_=>rfl
 | 2,_=>rfl
 | 3,_=>rfl
theorem fe(x y:Int):f43 x y=some (if 0≤x∧x<24∧0≤y∧y<16 then y*24+x else -1,()):=by
 unfold f43;simp only[af]
 by_cases h:0≤x∧x<24∧0≤y∧y<16
 ·rw[if_pos h,if_neg (by omega),if_neg (by omega),if_neg (by omega),if_neg (by omega),wr (x:=y*24) (by omega),wr (by omega)]
 ·rw[if_neg h]
  split
  ·rfl
  ·split
   ·rfl
   ·split
    ·rfl
    ·split
     ·rfl
     ·omega
theorem cF{x:Int}(h:-1000≤x∧x≤1000):small x=true:=by
 unfold small;simp;omega
theorem dd(j:Nat)(hj:j<4):-1≤ddx j∧ddx j≤1∧-1≤bf j∧bf j≤1:=by
 match j,hj with
 | 0,_=>decide
 | 1,_=>decide
 | 2,_=>decide
 | 3,_=>decide
theorem step_eq(x y:Int)(hx:0≤x∧x<24)(hy:0≤y∧y<16)(j:Nat)(hj:j<4):f45 x y (1+(j:Int))=some (x+ddx j,y+bf j,()):=by
 have d:=dd j hj;unfold f45;rw[qH j hj];simp only[Option.bind_some];rw[cF (by omega),cF (by omega),cF (by omega),cF (by omega)]
 rfl
theorem Co(x y:Int)(hx:-10≤x∧x<40)(hy:-10≤y∧y<40):f44 x y=some (x,y,()):=by
 unfold f44;rw[cF (by omega),cF (by omega)]
 rfl
abbrev e0:ag:=Run.zE
def fg(e:ag):Int:=e.2.2.2.1
def eO(e:ag):Int:=e.2.2.2.2.1
structure cM (l:List ag):Prop where
 len:l.length=32
 at_:∀i,i<l.length→(l.getD i e0).1=0∨(0≤fg (l.getD i e0)∧fg (l.getD i e0)<24∧0≤eO (l.getD i e0)∧eO (l.getD i e0)<16)
theorem Ao:f81 2=some (2,0,0,0,0,4,4,2,0,0,0,()):=rfl
def mk(m:Int)(b:List Bool)(e:ag):List Bool:=if e.1≠0∧eO e*24+fg e≠m then b.set (eO e*24+fg e).toNat true else b
def cP(m:Int)(l:List ag)(i:Nat):List Bool:=(l.take i).foldl (mk m) (List.replicate 384 false)
theorem Fe(m:Int)(b:List Bool)(e:ag):(mk m b e).length=b.length:=by unfold mk;split<;>simp
theorem kH(m:Int)(l:List ag)(i:Nat):(cP m l i).length=384:=by
 unfold cP;generalize l.take i=t;have:∀(t:List ag) (b:List Bool),(t.foldl (mk m) b).length=b.length:=by
  intro t
  induction t with
  | nil=>intro b;rfl
  | cons e t ih=>intro b;rw[List.foldl_cons,ih,Fe]
 rw[this,List.length_replicate]
theorem jH(m:Int)(l:List ag)(i:Nat)(hi:i<l.length):cP m l (i+1)=mk m (cP m l i) (l.getD i e0):=by
 unfold cP;have:l.getD i e0=l[i]:=by simp[List.getD_eq_getElem?_getD,hi]
 rw[List.take_succ_eq_append_getElem hi,List.foldl_append,this];rfl
theorem CJ(m:Int)(l:List ag)(h:cM l)(k:Nat)(hk:k<l.length)(h1:(l.getD k e0).1≠0)(h2:eO (l.getD k e0)*24+fg (l.getD k e0)≠m):∀i,k<i→i≤l.length→(cP m l i).getD (eO (l.getD k e0)*24+fg (l.getD k e0)).toNat false=true:=by
 intro i
 induction i with
 | zero=>intro h;omega
 | succ i ih =>
  intro hki hil;rw[jH m l i (by omega)]
  have hlen:=kH m l i;rcases h.at_ k hk with h0 | h0
  ·exact absurd h0 h1
  by_cases e:k=i
  ·subst e
   unfold mk;rw[if_pos ⟨h1,h2⟩,aN,if_pos ⟨rfl,by omega⟩]
  ·have:=ih (by omega) (by omega)
   unfold mk;split
   ·rw[aN]
    split
    ·rfl
    ·exact this
   ·exact this
end Go.Proofs.YthdgahpomhnidaaGreat.Nav
namespace Go.Proofs.YthdgahpomhnidaaGreat.Nav
open Go Mx Pc Run Field Gen
theorem sR(a b c d:Int):OK (f222 a b c d) fun y=>(∃j:Nat,j<4∧y.1=1+(j:Int)∧IntKind.wrap .i64 (c-a)=ddx j∧IntKind.wrap .i64 (d-b)=bf j)∨(y.1=0∧∀j:Nat,j<4→¬(IntKind.wrap .i64 (c-a)=ddx j∧IntKind.wrap .i64 (d-b)=bf j)):=by
 unfold f222 f222.L1;refine OK.loop (fun j:Nat=>(a,b,c,d,1+(j:Int),())) (fun j=>j≤4∧∀k,k<j→¬(IntKind.wrap .i64 (c-a)=ddx k∧IntKind.wrap .i64 (d-b)=bf k)) (fun j=>4-j) (fun rec j hj ih=>?_) 0 rfl ⟨Nat.zero_le _,fun k hk=>absurd hk (Nat.not_lt_zero k)⟩ (by omega)
 obtain⟨hj,hn⟩:=hj;dsimp only at hj hn ih ⊢;rw[af]
 by_cases q:j<4
 ·have wj:IntKind.wrap .i64 (1+(j:Int)+1)=1+((j+1:Nat):Int):=by rw[wr (by omega)];omega
  rw[if_pos (by omega),qH j q,wj]
  simp only[Option.bind_some];have skip:¬(IntKind.wrap .i64 (c-a)=ddx j∧IntKind.wrap .i64 (d-b)=bf j)→OK (rec (a,b,c,d,1+((j+1:Nat):Int),())) _:=fun h=>ih (j+1) ⟨by omega,fun k hk=>by
   rcases(by omega:k<j∨k=j) with z | z
   ·exact hn k z
   ·subst z;exact h⟩ (by omega) _ rfl
  refine OK.bif (fun h1=>?_) (fun h1=>skip (fun h=>by have:=beq_eq_false_iff_ne.1 h1;exact this h.1))
  refine OK.bif (fun h2=>?_) (fun h2=>skip (fun h=>by have:=beq_eq_false_iff_ne.1 h2;exact this h.2))
  exact OK.ret (.inl ⟨j,q,rfl,beq_iff_eq.1 h1,beq_iff_eq.1 h2⟩)
 ·rw[if_neg (by omega)]
  exact OK.ret (.inr ⟨rfl,fun k hk=>hn k (by omega)⟩)
end Go.Proofs.YthdgahpomhnidaaGreat.Nav
namespace Go.Proofs.YthdgahpomhnidaaGreat.Pure
open Go Mx Pc Run Field Gen Nav
end Go.Proofs.YthdgahpomhnidaaGreat.Pure
namespace Go.Proofs.YthdgahpomhnidaaGreat.Nav
open Go Mx Pc Run Field Gen
theorem xc(x:Int):IntKind.wrap .i64 x=(x+9223372036854775808)%18446744073709551616-9223372036854775808:=by
 simp[IntKind.wrap,IntKind.bits,IntKind.signed];split<;>omega
def fm(l:List ag)(x y:Int):Prop:=∀i,i<l.length→(l.getD i e0).1≠0→¬(fg (l.getD i e0)=x∧eO (l.getD i e0)=y)
theorem wX(l:List ag)(hl:l.length≤1000)(x y:Int):OK (f91 l x y) fun z=>z.1<0↔fm l x y:=by
 unfold f91 f91.L1;refine OK.loop (fun j:Nat=>(l,x,y,(j:Int),())) (fun j=>j≤l.length∧∀i,i<j→(l.getD i e0).1≠0→¬(fg (l.getD i e0)=x∧eO (l.getD i e0)=y)) (fun j=>l.length-j) (fun rec j hj ih=>?_) 0 rfl ⟨Nat.zero_le _,fun i hi=>absurd hi (Nat.not_lt_zero i)⟩ (by omega)
 obtain⟨hj,hn⟩:=hj;dsimp only at hj hn ih ⊢;rw[af]
 by_cases q:(j:Int)<(l.length:Int)
 ·have wj:IntKind.wrap .i64 ((j:Int)+1)=((j+1:Nat):Int):=by rw[wr (by omega)];omega
  have skip:((l.getD j e0).1≠0→¬(fg (l.getD j e0)=x∧eO (l.getD j e0)=y))→OK (rec (l,x,y,((j+1:Nat):Int),())) _:=fun h=>ih (j+1) ⟨by omega,fun i hi=>by
   rcases(by omega:i<j∨i=j) with z | z
   ·exact hn i z
   ·subst z;exact h⟩ (by omega) _ rfl
  rw[if_pos q,ao (by omega),cond_true,cond_true,cond_true,wj,Int.toNat_natCast]
  refine OK.bif (fun h1=>?_) (fun h1=>skip (fun h=>absurd (bne_eq_false_iff_eq.1 h1) h))
  refine OK.bif (fun h2=>?_) (fun h2=>skip (fun _ h=>beq_eq_false_iff_ne.1 h2 h.1))
  refine OK.bif (fun h3=>?_) (fun h3=>skip (fun _ h=>beq_eq_false_iff_ne.1 h3 h.2))
  exact OK.ret ⟨fun h=>by dsimp only at h;omega,fun h=>absurd ⟨beq_iff_eq.1 h2,beq_iff_eq.1 h3⟩ (h j (by omega) (bne_iff_ne.1 h1))⟩
 ·rw[if_neg q]
  exact OK.ret ⟨fun _ i hi=>hn i (by omega),fun _=>(by dsimp only;omega)⟩
theorem za(l:List ag)(hl:l.length=32)(x y:Int):OK (f96 l x y) fun z=>z.1<0↔fm l x y:=by
 unfold f96 f153_1 f162;have lm:aX (l.length:Int) 32=32:=by rw[br];omega
 have ld:List.drop 0 (List.take (Int.toNat (32:Int)) l)=l:=by
  rw[List.drop_zero];exact List.take_of_length_le (by omega)
 rw[lm,af,if_pos (by omega),ld]
 simp only[Option.bind_some];unfold f153_1.L1;refine OK.aD (R:=fun z=>z.1<0↔fm l x y) ?_ (fun z hz=>OK.ret hz)
 refine OK.loop (fun j:Nat=>(l,(l.length:Int),(j:Int),x,y,())) (fun j=>j≤l.length∧∀i,i<j→(l.getD i e0).1≠0→¬(fg (l.getD i e0)=x∧eO (l.getD i e0)=y)) (fun j=>l.length-j) (fun rec j hj ih=>?_) 0 rfl ⟨Nat.zero_le _,fun i hi=>absurd hi (Nat.not_lt_zero i)⟩ (by omega)
 obtain⟨hj,hn⟩:=hj;dsimp only at hj hn ih ⊢;rw[af]
 by_cases q:(j:Int)<(l.length:Int)
 ·have wj:IntKind.wrap .i64 ((j:Int)+1)=((j+1:Nat):Int):=by rw[wr (by omega)];omega
  have skip:((l.getD j e0).1≠0→¬(fg (l.getD j e0)=x∧eO (l.getD j e0)=y))→OK (rec (l,(l.length:Int),((j+1:Nat):Int),x,y,())) _:=fun h=>ih (j+1) ⟨by omega,fun i hi=>by
   rcases(by omega:i<j∨i=j) with z | z
   ·exact hn i z
   ·subst z;exact h⟩ (by omega) _ rfl
  rw[if_pos q,ao (by omega),cond_true,wj,Int.toNat_natCast]
  have ep:f154 (j:Int) (l.getD j e0).1 (l.getD j e0).2.1 (l.getD j e0).2.2.1 (l.getD j e0).2.2.2.1 (l.getD j e0).2.2.2.2.1 (l.getD j e0).2.2.2.2.2.1 (l.getD j e0).2.2.2.2.2.2.1 (l.getD j e0).2.2.2.2.2.2.2.1 (l.getD j e0).2.2.2.2.2.2.2.2.1 (l.getD j e0).2.2.2.2.2.2.2.2.2.1 (l.getD j e0).2.2.2.2.2.2.2.2.2.2 x y=some ((l.getD j e0).1 !=0&&(fg (l.getD j e0)==x&&(eO (l.getD j e0)==y&&true)),()):=by
   unfold f154;cases ((l.getD j e0).1 !=0)<;>rfl
  rw[ep];simp only[Option.bind_some];cases h1:((l.getD j e0).1 !=0) with
  | false=>exact skip (fun h=>absurd (bne_eq_false_iff_eq.1 h1) h)
  | true =>
  cases h2:(fg (l.getD j e0)==x) with
  | false=>exact skip (fun _ h=>beq_eq_false_iff_ne.1 h2 h.1)
  | true =>
  cases h3:(eO (l.getD j e0)==y) with
  | false=>exact skip (fun _ h=>beq_eq_false_iff_ne.1 h3 h.2)
  | true=>exact OK.ret ⟨fun h=>by dsimp only at h;omega,fun h=>absurd ⟨beq_iff_eq.1 h2,beq_iff_eq.1 h3⟩ (h j (by omega) (bne_iff_ne.1 h1))⟩
 ·rw[if_neg q]
  exact OK.ret ⟨fun _ i hi=>hn i (by omega),fun _=>(by dsimp only;omega)⟩
theorem Ce(m:Int)(l:List ag)(h:cM l)(n:Nat):∀i,i≤l.length→(cP m l i).getD n false=true→∃k,k<l.length∧(l.getD k e0).1≠0∧(eO (l.getD k e0)*24+fg (l.getD k e0)).toNat=n:=by
 intro i
 induction i with
 | zero =>
  intro _ e;have:(cP m l 0).getD n false=false:=by
   unfold cP;rw[List.take_zero,List.foldl_nil,List.getD_eq_getElem?_getD,List.getElem?_replicate];split<;>rfl
  rw[this]at e;cases e
 | succ i ih =>
  intro hi e;rw[jH m l i (by omega)]at e
  unfold mk at e;split at e
  ·rename_i g
   rw[aN]at e;split at e
   ·rename_i g2
    exact⟨i,by omega,g.1,g2.1⟩
   ·exact ih (by omega) e
  ·exact ih (by omega) e
def PJ(l:List ag)(f:List Int)(m:Int)(j:Nat):Prop:=GC (nbr m j)∧Field.rd f (nbr m j)=Field.rd f m-1∧fm l (nbr m j%24) (nbr m j/24)
def TW(l:List ag)(f:List Int)(m z:Int):Prop:=(z=0∧(Field.rd f m<1∨∀j,j<4→¬PJ l f m j))∨(1≤Field.rd f m∧∃j:Nat,j<4∧z=1+(j:Int)∧PJ l f m j∧∀k,k<j→¬PJ l f m k)
theorem TW.one{l:List ag}{f:List Int}{m z z':Int}(h:TW l f m z)(h':TW l f m z'):z=z':=by
 rcases h with ⟨e,h⟩ | ⟨r,j,hj,e,p,n⟩
 ·rcases h' with ⟨e',h'⟩ | ⟨r',j',hj',e',p',n'⟩
  ·omega
  ·rcases h with h | h
   ·omega
   ·exact absurd p' (h j' hj')
 ·rcases h' with ⟨e',h'⟩ | ⟨r',j',hj',e',p',n'⟩
  ·rcases h' with h' | h'
   ·omega
   ·exact absurd p (h' j hj)
  ·rcases(by omega:j<j'∨j=j'∨j'<j) with z | z | z
   ·exact absurd p (n' j z)
   ·subst z;omega
   ·exact absurd p' (n j' z)
theorem xW(m:Int)(l:List ag)(h:cM l)(n:Int)(hn:GC n)(ne:n≠m):(cP m l 32).getD n.toNat false=false↔fm l (n%24) (n/24):=by
 have hl:=h.len;unfold GC at hn;constructor
 ·intro e i hi h1 ⟨g1,g2⟩
  have ep:eO (l.getD i e0)*24+fg (l.getD i e0)=n:=by rw[g1,g2];omega
  have:=CJ m l h i hi h1 (by rw[ep];exact ne) 32 (by omega) (by omega)
  rw[ep,e]at this;cases this
 ·intro hf
  cases e:(cP m l 32).getD n.toNat false with
  | false=>rfl
  | true =>
   obtain⟨k,hk,h1,h2⟩:=Ce m l h n.toNat 32 (by omega) e
   have g:=(h.at_ k hk).resolve_left h1;exact absurd ⟨by omega,by omega⟩ (hf k hk h1)
theorem sM(c:List Int)(hc:CB c)(l:List ag)(h:cM l)(m:Int)(hm:GC m)(ts:List Int)(ht:ts.length≤1000000) :
  OK (f16 c l (m%24) (m/24) ts) fun z=>∃f,bm (bj c (cP m l 32)) (eL c ts) f∧TW l f m z.1:=by
 have hm':=hm;unfold GC at hm';have hl:=h.len;unfold f16;have em:m/24*24+m%24=m:=by omega
 rw[fe,if_pos (by omega),em]
 simp only[Option.bind_some];have lm:aX (l.length:Int) 32=32:=by rw[br];omega
 have ld:List.drop 0 (List.take (Int.toNat (32:Int)) l)=l:=by
  rw[List.drop_zero];exact List.take_of_length_le (by omega)
 rw[af,if_neg (by omega),lm,af,if_pos (by omega),ld]
 unfold f16.L2;refine OK.loop (fun j:Nat=>(c,m%24,m/24,ts,m,l,(l.length:Int),(j:Int),cP m l j,())) (fun j=>j≤32) (fun j=>32-j) (fun rec j hj ih=>?_) 0 rfl (Nat.zero_le _) (by decide)
 dsimp only at hj ih ⊢;rw[af]
 by_cases q:(j:Int)<(l.length:Int)
 ·have wj:IntKind.wrap .i64 ((j:Int)+1)=((j+1:Nat):Int):=by rw[wr (by omega)];omega
  rw[if_pos q,ao (by omega),cond_true,fe,wj,Int.toNat_natCast]
  simp only[Option.bind_some];have nx:=ih (j+1) (by omega) (by omega) _ rfl
  rw[jH m l j (by omega)]at nx
  have hlen:=kH m l j;have hh:=h.at_ j (by omega)
  generalize cP m l j=b at *
  unfold mk at nx;generalize hE:l.getD j e0=E at *
  by_cases k0:E.1=0
  ·have q0:(E.1 !=0)=false:=by simp[k0]
   rw[if_neg (fun hx=>hx.1 k0)]at nx
   rw[q0,cond_false];exact nx
  ·have q0:(E.1 !=0)=true:=by simpa using k0
   have g:=hh.resolve_left k0;have eN:(if 0≤E.2.2.2.1∧E.2.2.2.1<24∧0≤E.2.2.2.2.1∧E.2.2.2.2.1<16 then E.2.2.2.2.1*24+E.2.2.2.1 else -1)=eO E*24+fg E:=if_pos g
   rw[q0,cond_true,eN,af,if_pos (by omega)]
   by_cases k1:eO E*24+fg E=m
   ·have q1:(eO E*24+fg E !=m)=false:=by simp[k1]
    rw[if_neg (fun hx=>hx.2 k1)]at nx
    rw[q1,cond_false];exact nx
   ·have q1:(eO E*24+fg E !=m)=true:=by simpa using k1
    rw[if_pos ⟨k0,k1⟩]at nx;rw[q1,cond_true,ao (by omega),cond_true]
    exact nx
 ·have e:j=32:=by omega
  subst e;rw[if_neg q];have hlen:=kH m l 32;refine OK.aD (iK c hc (cP m l 32) ts ht) fun y hy=>?_
  have hfl:=hy.len;have lo:=hy.lo m hm;have sm:=oJ hy m hm;have fs:=fun n hn ne=>xW m l h n hn ne
  generalize cP m l 32=b at *
  obtain⟨f,u⟩:=y;dsimp only at hy hfl lo sm ⊢;rw[ao (by omega),cond_true,af]
  by_cases k:f.getD m.toNat 0<1
  ·rw[if_pos k]
   exact OK.ret ⟨f,hy,.inl ⟨rfl,.inl k⟩⟩
  ·rw[if_neg k]
   have k':1≤Field.rd f m:=by unfold Field.rd;omega
   unfold f16.L1;refine OK.loop (fun j:Nat=>(m%24,m/24,m,1+(j:Int),b,f,())) (fun j=>j≤4∧∀i,i<j→¬PJ l f m i) (fun j=>4-j) (fun rec j hj ih=>?_) 0 rfl ⟨Nat.zero_le _,fun i hi=>absurd hi (Nat.not_lt_zero i)⟩ (by decide)
   obtain⟨hj,hnp⟩:=hj;dsimp only at hj hnp ih ⊢;rw[af]
   by_cases q:j<4
   ·have d:=dd j q
    have wj:IntKind.wrap .i64 (1+(j:Int)+1)=1+((j+1:Nat):Int):=by rw[wr (by omega)];omega
    have skip:¬PJ l f m j→OK (rec (m%24,m/24,m,1+((j+1:Nat):Int),b,f,())) _:=fun hp=>ih (j+1) ⟨by omega,fun i hi=>by
     rcases(by omega:i<j∨i=j) with z | z
     ·exact hnp i z
     ·subst z;exact hp⟩ (by omega) _ rfl
    rw[if_pos (by omega),cF (x:=m%24) (by omega),cF (x:=m/24) (by omega),cond_true,cond_true,step_eq _ _ (by omega) (by omega) j q,wj]
    simp only[Option.bind_some];rw[Co _ _ (by omega) (by omega)]
    simp only[Option.bind_some];rw[fe];simp only[Option.bind_some];rcases nw m hm j q with ⟨hin,hcel⟩ | ⟨hout,hn⟩
    ·unfold bB at hin
     unfold cd at hcel;have hg:GC (nbr m j):=by rw[←hcel];unfold GC;omega
     rw[if_pos hin,hcel];have hg':=hg;unfold GC at hg';have ew:IntKind.wrap .i64 (f.getD m.toNat 0-1)=Field.rd f m-1:=by
      have:f.getD m.toNat 0=Field.rd f m:=rfl;rw[this,wr (by omega)]
     rw[af,if_pos (by omega),ao (i:=nbr m j) (n:=f.length) (by omega),ao (i:=m) (n:=f.length) (by omega),ao (i:=nbr m j) (n:=b.length) (by omega),cond_true,cond_true,cond_true,ew]
     refine OK.bif (fun h1=>?_) (fun h1=>skip (fun hp=>beq_eq_false_iff_ne.1 h1 hp.2.1))
     have r1:Field.rd f (nbr m j)=Field.rd f m-1:=beq_iff_eq.1 h1;have ne:nbr m j≠m:=fun e=>by rw[e]at r1;omega
     have fs':=fs (nbr m j) hg ne;cases hb:b.getD (nbr m j).toNat false with
     | false=>exact OK.ret ⟨f,hy,.inr ⟨k',j,q,rfl,⟨hg,r1,fs'.1 hb⟩,hnp⟩⟩
     | true=>exact skip (fun hp=>by have:=fs'.2 hp.2.2;rw[hb]at this;cases this)
    ·unfold bB at hout
     rw[if_neg hout,af,if_neg (by omega)]
     exact skip (fun hp=>by have:=hp.1;rw[hn]at this;unfold GC at this;omega)
   ·rw[if_neg (by omega)]
    exact OK.ret ⟨f,hy,.inl ⟨rfl,.inr fun i hi=>hnp i (by omega)⟩⟩
theorem yF(l:List ag)(h:cM l)(m:Int)(hm:GC m):OK (f164 l (m%24) (m/24)) fun z=>z.1=cP m l 32:=by
 have hl:=h.len;unfold GC at hm;unfold f164 f164.L1;refine OK.loop (fun j:Nat=>(l,m%24,m/24,(j:Int),cP m l j,())) (fun j=>j≤32) (fun j=>32-j) (fun rec j hj ih=>?_) 0 rfl (Nat.zero_le _) (by decide)
 dsimp only at hj ih ⊢;rw[af]
 by_cases q:(j:Int)<(l.length:Int)
 ·have wj:IntKind.wrap .i64 ((j:Int)+1)=((j+1:Nat):Int):=by rw[wr (by omega)];omega
  rw[if_pos q,ao (by omega)]
  simp only[cond_true];rw[iY,wj,Int.toNat_natCast];simp only[Option.bind_some];have nx:=ih (j+1) (by omega) (by omega) _ rfl
  rw[jH m l j (by omega)]at nx
  have hlen:=kH m l j;have hh:=h.at_ j (by omega)
  generalize cP m l j=b at *
  unfold mk at nx;generalize hE:l.getD j e0=E at *
  by_cases k0:E.1=0
  ·have q0:(E.1 !=0)=false:=by simp[k0]
   rw[if_neg (fun hx=>hx.1 k0)]at nx
   rw[q0,cond_false];exact nx
  ·have q0:(E.1 !=0)=true:=by simpa using k0
   have g:=hh.resolve_left k0;have e1:E.2.2.2.2.1=eO E:=rfl;have e2:E.2.2.2.1=fg E:=rfl;rw[e1,e2];have eN:IntKind.wrap .i64 (IntKind.wrap .i64 (eO E*24)+fg E)=eO E*24+fg E:=by
    rw[wr (x:=eO E*24) (by omega),wr (by omega)]
   rw[q0,cond_true,decide_eq_true g,cond_true,eN,ao (i:=eO E*24+fg E) (by omega)]
   simp only[cond_true]
   by_cases k1:eO E*24+fg E=m
   ·have q1:(fg E !=m%24)=false:=by simp;omega
    have q2:(eO E !=m/24)=false:=by simp;omega
    rw[if_neg (fun hx=>hx.2 k1)]at nx
    rw[q1,cond_false,q2,cond_false];exact nx
   ·rw[if_pos ⟨k0,k1⟩]at nx
    cases q1:(fg E !=m%24) with
    | true=>exact nx
    | false =>
     have:=bne_eq_false_iff_eq.1 q1;have q2:(eO E !=m/24)=true:=by simp;omega
     rw[cond_false,q2,cond_true];exact nx
 ·have e:j=32:=by omega
  subst e;rw[if_neg q];exact OK.ret rfl
theorem yx(c:List Int)(hc:CB c)(l:List ag)(h:cM l)(m:Int)(hm:GC m)(ts:List Int)(ht:ts.length≤1000000) :
  OK (f138 c l (m%24) (m/24) ts) fun z=>∃f,bm (bj c (cP m l 32)) (eL c ts) f∧TW l f m z.1:=by
 have hm':=hm;unfold GC at hm';have hl:=h.len;unfold f138;have em:IntKind.wrap .i64 (IntKind.wrap .i64 (m/24*24)+m%24)=m:=by rw[wr (x:=m/24*24) (by omega),wr (by omega)];omega
 rw[iY,decide_eq_true (by omega)]
 simp only[Option.bind_some,Bool.not_true,cond_false];refine OK.aD (yF l h m hm) fun y1 e1=>?_
 rw[e1];refine OK.aD (kO c hc (cP m l 32) ts ht) fun y hy=>?_
 have hfl:=hy.len;have lo:=hy.lo m hm;have sm:=oJ hy m hm;obtain⟨f,u⟩:=y;dsimp only at hy hfl lo sm ⊢;rw[em,ao (by omega),cond_true,af]
 by_cases k:f.getD m.toNat 0<1
 ·rw[if_pos k]
  exact OK.ret ⟨f,hy,.inl ⟨rfl,.inl k⟩⟩
 ·rw[if_neg k]
  have k':1≤Field.rd f m:=by unfold Field.rd;omega
  have efm:f.getD m.toNat 0=Field.rd f m:=rfl;rw[efm];unfold f138.L1;refine OK.loop (fun j:Nat=>(l,m%24,m/24,Field.rd f m,1+(j:Int),f,())) (fun j=>j≤4∧∀i,i<j→¬PJ l f m i) (fun j=>4-j) (fun rec j hj ih=>?_) 0 rfl ⟨Nat.zero_le _,fun i hi=>absurd hi (Nat.not_lt_zero i)⟩ (by decide)
  obtain⟨hj,hnp⟩:=hj;dsimp only at hj hnp ih ⊢;rw[af]
  by_cases q:j<4
  ·have d:=dd j q
   have wj:IntKind.wrap .i64 (1+(j:Int)+1)=1+((j+1:Nat):Int):=by rw[wr (by omega)];omega
   have skip:¬PJ l f m j→OK (rec (l,m%24,m/24,Field.rd f m,1+((j+1:Nat):Int),f,())) _:=fun hp=>ih (j+1) ⟨by omega,fun i hi=>by
    rcases(by omega:i<j∨i=j) with z | z
    ·exact hnp i z
    ·subst z;exact hp⟩ (by omega) _ rfl
   rw[if_pos (by omega),lk j q,wj]
   simp only[Option.bind_some];rw[wr (x:=m%24+ddx j) (by omega),wr (x:=m/24+bf j) (by omega),wr (x:=(m/24+bf j)*24) (by omega),wr (x:=(m/24+bf j)*24+m%24) (by omega),wr (x:=(m/24+bf j)*24+m%24+ddx j) (by omega),wr (x:=Field.rd f m-1) (by omega),iY]
   simp only[Option.bind_some];rcases nw m hm j q with ⟨hin,hcel⟩ | ⟨hout,hn⟩
   ·unfold bB at hin
    unfold cd at hcel;have hg:GC (nbr m j):=by rw[←hcel];unfold GC;omega
    have ek:(m/24+bf j)*24+m%24+ddx j=nbr m j:=by omega
    have hg':=hg;unfold GC at hg';rw[decide_eq_true hin,cond_true,ek,ao (by omega),cond_true]
    refine OK.bif (fun h1=>?_) (fun h1=>skip (fun hp=>beq_eq_false_iff_ne.1 h1 hp.2.1))
    have r1:Field.rd f (nbr m j)=Field.rd f m-1:=beq_iff_eq.1 h1;refine OK.aD (wX l (by omega) _ _) fun z hz=>?_
    have x1:m%24+ddx j=nbr m j%24:=by omega
    have x2:m/24+bf j=nbr m j/24:=by omega
    rw[x1,x2]at hz;rw[af]
    by_cases zn:z.1<0
    ·rw[if_pos zn]
     exact OK.ret ⟨f,hy,.inr ⟨k',j,q,rfl,⟨hg,r1,hz.1 zn⟩,hnp⟩⟩
    ·rw[if_neg zn]
     exact skip (fun hp=>zn (hz.2 hp.2.2))
   ·rw[decide_eq_false (show ¬(0≤m%24+ddx j∧m%24+ddx j<24∧0≤m/24+bf j∧m/24+bf j<16) from hout),cond_false]
    exact skip (fun hp=>by have:=hp.1;rw[hn]at this;unfold GC at this;omega)
  ·rw[if_neg (by omega)]
   exact OK.ret ⟨f,hy,.inl ⟨rfl,.inr fun i hi=>hnp i (by omega)⟩⟩
end Go.Proofs.YthdgahpomhnidaaGreat.Nav
namespace Go.Proofs.YthdgahpomhnidaaGreat.Nav
open Go Mx Pc Run Field Gen
open Classical in
noncomputable def best(f:List Int)(l:List ag):Nat→Int
 | 0=>-1
 | i+1=>if 0≤Field.rd f (i:Int)∧fm l ((i:Int)%24) ((i:Int)/24)∧(best f l i<0∨Field.rd f (i:Int)<Field.rd f (best f l i)) then (i:Int) else best f l i
theorem uj(f:List Int)(l:List ag):∀i,-1≤best f l i∧best f l i<(i:Int)
 | 0=>by unfold best;omega
 | i+1=>by
  have:=uj f l i;unfold best;split<;>omega
theorem gO{f:List Int}{l:List ag}{i:Nat}(h:0≤Field.rd f (i:Int)∧fm l ((i:Int)%24) ((i:Int)/24)∧(best f l i<0∨Field.rd f (i:Int)<Field.rd f (best f l i))):best f l (i+1)=i:=by
 rw[best,if_pos h]
theorem eJ{f:List Int}{l:List ag}{i:Nat}(h:¬(0≤Field.rd f (i:Int)∧fm l ((i:Int)%24) ((i:Int)/24)∧(best f l i<0∨Field.rd f (i:Int)<Field.rd f (best f l i)))):best f l (i+1)=best f l i:=by
 rw[best,if_neg h]
theorem kM(f:List Int)(hf:f.length=384)(l:List ag)(h:cM l):OK (f109.L1 (l,-1,(f.length:Int),0,f,())) fun z=>z.1=best f l 384:=by
 have hl:=h.len;unfold f109.L1;refine OK.loop (fun i:Nat=>(l,best f l i,(f.length:Int),(i:Int),f,())) (fun i=>i≤384) (fun i=>384-i) (fun rec i hi ih=>?_) 0 rfl (Nat.zero_le _) (by decide)
 dsimp only at hi ih ⊢;have bb:=uj f l i;rw[af]
 by_cases q:(i:Int)<(f.length:Int)
 ·have wi:IntKind.wrap .i64 ((i:Int)+1)=((i+1:Nat):Int):=by rw[wr (by omega)];omega
  have nx:=ih (i+1) (by omega) (by omega) _ rfl
  rw[if_pos q,ao (by omega),cond_true,wi,Int.tmod_eq_emod_of_nonneg (by omega),Int.tdiv_eq_ediv_of_nonneg (by omega),wr (x:=(i:Int)/24) (by omega)]
  have ef:f.getD (Int.toNat (i:Int)) 0=Field.rd f (i:Int):=rfl;have eb:f.getD (best f l i).toNat 0=Field.rd f (best f l i):=rfl;rw[ef,eb,af]
  by_cases c1:Field.rd f (i:Int)≥0
  ·rw[if_pos c1,af]
   by_cases c2:best f l i<0
   ·rw[if_pos c2]
    refine OK.aD (za l hl _ _) fun z hz=>?_
    rw[af]
    by_cases c3:z.1<0
    ·rw[gO ⟨c1,hz.1 c3,.inl c2⟩]at nx
     rw[if_pos c3];exact nx
    ·rw[eJ (fun hh=>c3 (hz.2 hh.2.1))]at nx
     rw[if_neg c3];exact nx
   ·rw[if_neg c2,ao (by omega),cond_true,af]
    by_cases c4:Field.rd f (i:Int)<Field.rd f (best f l i)
    ·rw[if_pos c4]
     refine OK.aD (za l hl _ _) fun z hz=>?_
     rw[af]
     by_cases c3:z.1<0
     ·rw[gO ⟨c1,hz.1 c3,.inr c4⟩]at nx
      rw[if_pos c3];exact nx
     ·rw[eJ (fun hh=>c3 (hz.2 hh.2.1))]at nx
      rw[if_neg c3];exact nx
    ·rw[eJ (fun hh=>by rcases hh.2.2 with x | x<;>omega)]at nx
     rw[if_neg c4];exact nx
  ·rw[eJ (fun hh=>c1 hh.1)]at nx
   rw[if_neg c1];exact nx
 ·have e:i=384:=by omega
  subst e;rw[if_neg q];exact OK.ret rfl
theorem x5(f:List Int)(hf:f.length=384)(l:List ag)(h:cM l):OK (f132.L1 (l,-1,0,f,())) fun z=>z.1=best f l 384:=by
 have hl:=h.len;unfold f132.L1;refine OK.loop (fun i:Nat=>(l,best f l i,(i:Int),f,())) (fun i=>i≤384) (fun i=>384-i) (fun rec i hi ih=>?_) 0 rfl (Nat.zero_le _) (by decide)
 dsimp only at hi ih ⊢;have bb:=uj f l i;rw[af]
 by_cases q:(i:Int)<384
 ·have wi:IntKind.wrap .i64 ((i:Int)+1)=((i+1:Nat):Int):=by rw[wr (by omega)];omega
  have nx:=ih (i+1) (by omega) (by omega) _ rfl
  rw[if_pos q,ao (by omega),cond_true,wi,Int.tmod_eq_emod_of_nonneg (by omega),Int.tdiv_eq_ediv_of_nonneg (by omega),wr (x:=(i:Int)/24) (by omega)]
  have ef:f.getD (Int.toNat (i:Int)) 0=Field.rd f (i:Int):=rfl;have eb:f.getD (best f l i).toNat 0=Field.rd f (best f l i):=rfl;rw[ef,eb,af]
  by_cases c1:Field.rd f (i:Int)≥0
  ·rw[if_pos c1]
   refine OK.aD (wX l (by omega) _ _) fun z hz=>?_
   rw[af]
   by_cases c3:z.1<0
   ·rw[if_pos c3,af]
    by_cases c2:best f l i<0
    ·rw[gO ⟨c1,hz.1 c3,.inl c2⟩]at nx
     rw[if_pos c2];exact nx
    ·rw[if_neg c2,cond_true,ao (by omega),cond_true,af]
     by_cases c4:Field.rd f (i:Int)<Field.rd f (best f l i)
     ·rw[gO ⟨c1,hz.1 c3,.inr c4⟩]at nx
      rw[if_pos c4];exact nx
     ·rw[eJ (fun hh=>by rcases hh.2.2 with x | x<;>omega)]at nx
      rw[if_neg c4];exact nx
   ·rw[eJ (fun hh=>c3 (hz.2 hh.2.1))]at nx
    rw[if_neg c3];exact nx
  ·rw[eJ (fun hh=>c1 hh.1)]at nx
   rw[if_neg c1];exact nx
 ·have e:i=384:=by omega
  subst e;rw[if_neg q];exact OK.ret rfl
theorem xZ{opn T:Int→Prop}{f:List Int}(hf:bm opn T f)(hT:∀n,GC n→¬T n):∀(k:Nat) n,GC n→Field.rd f n≠k:=by
 intro k
 induction k with
 | zero=>intro n hn e;exact hT n hn ((hf.zero n hn).1 e)
 | succ k ih =>
  intro n hn e;obtain⟨_,m,hm,_,h2⟩:=hf.up n hn (by omega)
  exact ih m hm (by omega)
theorem sN{f:List Int}(l:List ag)(h:∀n,GC n→Field.rd f n<0):∀i:Nat,i≤384→best f l i=-1
 | 0,_=>rfl
 | i+1,hi=>by
  rw[eJ (fun hh=>by have:=h (i:Int) ⟨by omega,by omega⟩;omega)]
  exact sN l h i (by omega)
theorem GG(c:List Int)(hc:CB c)(l:List ag)(h:cM l)(x y:Int):∃v,f109 c l x y=some (v,())∧f132 c l x y=some (v,()):=by
 by_cases hin:0≤x∧x<24∧0≤y∧y<16
 ·have a1:OK (f109 c l x y) fun z=>∃f,bm (bj c []) (eL c [y*24+x]) f∧z.1=best f l 384:=by
   unfold f109;rw[fe,if_pos hin];simp only[Option.bind_some];refine OK.aD (iK c hc [] [y*24+x] (by simp)) fun f hf=>?_
   exact(kM f.1 hf.len l h).mono fun z hz=>⟨f.1,hf,hz⟩
  have a2:OK (f132 c l x y) fun z=>∃f,bm (bj c []) (eL c [y*24+x]) f∧z.1=best f l 384:=by
   unfold f132;rw[iY,decide_eq_true hin,wr (x:=y*24) (by omega),wr (x:=y*24+x) (by omega)]
   simp only[Option.bind_some,Bool.not_true,cond_false];refine OK.aD (kO c hc [] [y*24+x] (by simp)) fun f hf=>?_
   exact(x5 f.1 hf.len l h).mono fun z hz=>⟨f.1,hf,hz⟩
  obtain⟨z,e1,f,hf,h1⟩:=a1;obtain⟨z',e2,f',hf',h2⟩:=a2;have ee:f'=f:=kK hf' hf;refine⟨z.1,e1,?_⟩;have:z'=(z.1,()):=by
   have:z'.1=z.1:=by rw[h1,h2,ee]
   rw[←this]
  rw[e2,this]
 ·have a1:OK (f109 c l x y) fun z=>z.1=-1:=by
   unfold f109;rw[fe,if_neg hin];simp only[Option.bind_some];refine OK.aD (iK c hc [] [-1] (by simp)) fun f hf=>?_
   refine(kM f.1 hf.len l h).mono fun z hz=>?_
   rw[hz];refine sN l (fun n hn=>?_) 384 (Nat.le_refl _)
   have nT:∀n,GC n→¬eL c [-1] n:=fun n hn ht=>by
    have:=List.mem_singleton.1 ht.1;unfold GC at hn;omega
   have:=xZ hf nT (Field.rd f.1 n).toNat n hn;omega
  obtain⟨z,e1,h1⟩:=a1;refine⟨-1,?_,?_⟩
  ·rw[e1,←h1]
  ·unfold f132
   rw[iY,decide_eq_false hin];rfl
theorem Es(c:List Int)(hc:CB c)(l:List ag)(h:cM l)(x y:Int)(ts:List Int)(ht:ts.length≤1000000):∃v,f16 c l x y ts=some (v,())∧f138 c l x y ts=some (v,()):=by
 by_cases hin:0≤x∧x<24∧0≤y∧y<16
 ·obtain⟨m,hm,ex,ey⟩:∃m,GC m∧x=m%24∧y=m/24:=⟨y*24+x,⟨by omega,by omega⟩,by omega,by omega⟩
  subst ex;subst ey;obtain⟨z,e1,f,hf,h1⟩:=sM c hc l h m hm ts ht;obtain⟨z',e2,f',hf',h2⟩:=yx c hc l h m hm ts ht;have ee:f'=f:=kK hf' hf;rw[ee]at h2;refine⟨z.1,e1,?_⟩;have:z'=(z.1,()):=by
   have:z'.1=z.1:=h2.one h1;rw[←this]
  rw[e2,this]
 ·refine⟨0,?_,?_⟩
  ·unfold f16
   rw[fe,if_neg hin];rfl
  ·unfold f138
   rw[iY,decide_eq_false hin];rfl
theorem yA(a b c d:Int):OK (f145 a b c d) fun y=>(∃j:Nat,j<4∧y.1=1+(j:Int)∧c=IntKind.wrap .i64 (a+ddx j)∧d=IntKind.wrap .i64 (b+bf j))∨(y.1=0∧∀j:Nat,j<4→¬(c=IntKind.wrap .i64 (a+ddx j)∧d=IntKind.wrap .i64 (b+bf j))):=by
 unfold f145 f145.L1;refine OK.loop (fun j:Nat=>(a,b,c,d,1+(j:Int),())) (fun j=>j≤4∧∀k,k<j→¬(c=IntKind.wrap .i64 (a+ddx k)∧d=IntKind.wrap .i64 (b+bf k))) (fun j=>4-j) (fun rec j hj ih=>?_) 0 rfl ⟨Nat.zero_le _,fun k hk=>absurd hk (Nat.not_lt_zero k)⟩ (by omega)
 obtain⟨hj,hn⟩:=hj;dsimp only at hj hn ih ⊢;rw[af]
 by_cases q:j<4
 ·have wj:IntKind.wrap .i64 (1+(j:Int)+1)=1+((j+1:Nat):Int):=by rw[wr (by omega)];omega
  rw[if_pos (by omega),lk j q,wj]
  simp only[Option.bind_some];have skip:¬(c=IntKind.wrap .i64 (a+ddx j)∧d=IntKind.wrap .i64 (b+bf j))→OK (rec (a,b,c,d,1+((j+1:Nat):Int),())) _:=fun h=>ih (j+1) ⟨by omega,fun k hk=>by
   rcases(by omega:k<j∨k=j) with z | z
   ·exact hn k z
   ·subst z;exact h⟩ (by omega) _ rfl
  refine OK.bif (fun h1=>?_) (fun h1=>skip (fun h=>by have:=beq_eq_false_iff_ne.1 h1;exact this h.1))
  refine OK.bif (fun h2=>?_) (fun h2=>skip (fun h=>by have:=beq_eq_false_iff_ne.1 h2;exact this h.2))
  exact OK.ret (.inl ⟨j,q,rfl,beq_iff_eq.1 h1,beq_iff_eq.1 h2⟩)
 ·rw[if_neg (by omega)]
  exact OK.ret (.inr ⟨rfl,fun k hk=>hn k (by omega)⟩)
theorem Ee(a b c d:Int)(ha:-9223372036854775808≤a∧a≤9223372036854775807)(hb:-9223372036854775808≤b∧b≤9223372036854775807)(hc:-9223372036854775808≤c∧c≤9223372036854775807)(hd:-9223372036854775808≤d∧d≤9223372036854775807) :
  ∃v,f222 a b c d=some (v,())∧f145 a b c d=some (v,()):=by
 obtain⟨z,e1,h1⟩:=sR a b c d;obtain⟨z',e2,h2⟩:=yA a b c d;have tr:∀a c t:Int,-9223372036854775808≤a∧a≤9223372036854775807→-9223372036854775808≤c∧c≤9223372036854775807→-1≤t∧t≤1→(IntKind.wrap .i64 (c-a)=t↔c=IntKind.wrap .i64 (a+t)):=fun a c t h1 h2 h3=>by
  rw[xc,xc];omega
 have both:∀j,j<4→((IntKind.wrap .i64 (c-a)=ddx j∧IntKind.wrap .i64 (d-b)=bf j)↔(c=IntKind.wrap .i64 (a+ddx j)∧d=IntKind.wrap .i64 (b+bf j))):=fun j hj=>by
  have q:=dd j hj;rw[tr a c (ddx j) ha hc ⟨q.1,q.2.1⟩,tr b d (bf j) hb hd ⟨q.2.2.1,q.2.2.2⟩]
 have one:∀i:Nat,i<4→∀j:Nat,j<4→ddx i=ddx j→bf i=bf j→i=j:=by decide
 have key:z'.1=z.1:=by
  rcases h1 with ⟨j,hj,e,p⟩ | ⟨e,n⟩
  ·rcases h2 with ⟨i,hi,e',p'⟩ | ⟨e',n'⟩
   ·have p2:=(both i hi).2 p'
    have:i=j:=one i hi j hj (by rw[←p.1,←p2.1]) (by rw[←p.2,←p2.2])
    subst this;omega
   ·exact absurd ((both j hj).1 p) (n' j hj)
  ·rcases h2 with ⟨i,hi,e',p'⟩ | ⟨e',n'⟩
   ·exact absurd ((both i hi).2 p') (n i hi)
   ·omega
 refine⟨z.1,e1,?_⟩;have:z'=(z.1,()):=by rw[←key]
 rw[e2,this]
end Go.Proofs.YthdgahpomhnidaaGreat.Nav
namespace Go.Proofs.YthdgahpomhnidaaGreat.Pure
open Go Mx Pc Run Field Gen Nav
end Go.Proofs.YthdgahpomhnidaaGreat.Pure
namespace Go.Proofs.YthdgahpomhnidaaGreat.Ln
open Go Mx Pc Run Field
theorem yr(a n:Int)(hn:0<n):(Int.tmod a n=a%n∧Int.tdiv a n=a/n∧(0≤a∨a%n=0))∨(a<0∧a%n≠0∧Int.tmod a n=a%n-n∧Int.tdiv a n=a/n+1):=by
 rw[Int.tmod_eq_emod,Int.tdiv_eq_ediv]
 by_cases h:0≤a∨n∣a
 ·left
  rw[if_pos h,if_pos h];exact⟨by simp,by simp,h.imp id Int.emod_eq_zero_of_dvd⟩
 ·right
  rw[if_neg h,if_neg h];have h0:¬0≤a:=fun x=>h (.inl x)
  have h1:a%n≠0:=fun x=>h (.inr (Int.dvd_of_emod_eq_zero x))
  rw[Int.sign_eq_one_of_pos hn];exact⟨by omega,h1,by omega,rfl⟩
def nr(p n:Int):Int:=(2*p+n)/(2*n)
theorem wR(n:Int)(hn:0<n):nr 0 n=0:=by
 unfold nr;exact(Int.ediv_emod_unique (a:=2*0+n) (b:=2*n) (r:=n) (q:=0) (by omega)).2 ⟨by omega,by omega,by omega⟩ |>.1
theorem Ca(n d:Int)(hn:0<n):nr (n*d) n=d:=by
 unfold nr;refine((Int.ediv_emod_unique (a:=2*(n*d)+n) (b:=2*n) (r:=n) (q:=d) (by omega)).2 ⟨?_,by omega,by omega⟩).1
 rw[Int.mul_assoc];omega
theorem od(p q n:Int)(hn:0<n)(h:p≤q):nr p n≤nr q n:=by
 unfold nr;exact Int.ediv_le_ediv (by omega) (by omega)
theorem qw(k d n:Int)(hn:0<n)(h0:0≤k)(h1:k≤n):(0≤d→0≤nr (k*d) n∧nr (k*d) n≤d)∧(d≤0→d≤nr (k*d) n∧nr (k*d) n≤0):=by
 have z:=wR n hn;have w:=Ca n d hn;constructor
 ·intro hd
  have a:=od 0 (k*d) n hn (Int.mul_nonneg h0 hd);have b:=od (k*d) (n*d) n hn (Int.mul_le_mul_of_nonneg_right h1 hd);omega
 ·intro hd
  have e1:k*d≤0:=Int.mul_nonpos_of_nonneg_of_nonpos h0 hd;have e2:n*d≤k*d:=Int.mul_le_mul_of_nonpos_right h1 hd;have a:=od (k*d) 0 n hn e1;have b:=od (n*d) (k*d) n hn e2;omega
def bg(dx dy:Int):Int:=max (max dx (-dx)) (max dy (-dy))
def lc(x0 y0 x1 y1:Int)(k:Nat):Int:=cd (x0+nr (k*(x1-x0)) (bg (x1-x0) (y1-y0))) (y0+nr (k*(y1-y0)) (bg (x1-x0) (y1-y0)))
def lcs(x0 y0 x1 y1:Int)(n:Nat):List Int:=cd x0 y0::(List.range n).map fun k=>lc x0 y0 x1 y1 (k+1)
def fE(x0 y0 x1 y1:Int):List Int:=lcs x0 y0 x1 y1 (bg (x1-x0) (y1-y0)).toNat
theorem lh(x0 y0 x1 y1:Int)(n:Nat):(lcs x0 y0 x1 y1 n).length=n+1:=by simp[lcs]
theorem Cr(x0 y0 x1 y1:Int)(n:Nat):lcs x0 y0 x1 y1 (n+1)=lcs x0 y0 x1 y1 n++[lc x0 y0 x1 y1 (n+1)]:=by
 unfold lcs;rw[List.range_succ,List.map_append];rfl
theorem uw(x0 y0 x1 y1:Int)(h0:bB x0 y0)(h1:bB x1 y1):0≤bg (x1-x0) (y1-y0)∧bg (x1-x0) (y1-y0)≤23:=by
 unfold bB at h0 h1;unfold bg;omega
theorem jA(k d:Int)(hk:0≤k∧k≤23)(hd:-23≤d∧d≤23):-529≤k*d∧k*d≤529:=by
 have a:k*d≤k*23:=Int.mul_le_mul_of_nonneg_left hd.2 hk.1;have b:k*(-23)≤k*d:=Int.mul_le_mul_of_nonneg_left hd.1 hk.1;omega
theorem uo(x0 y0 x1 y1 k:Int)(h0:bB x0 y0)(h1:bB x1 y1)(hk0:0≤k)(hk1:k≤bg (x1-x0) (y1-y0))(hs:0<bg (x1-x0) (y1-y0)) :
  bB (x0+nr (k*(x1-x0)) (bg (x1-x0) (y1-y0))) (y0+nr (k*(y1-y0)) (bg (x1-x0) (y1-y0))):=by
 have a:=qw k (x1-x0) _ hs hk0 hk1;have b:=qw k (y1-y0) _ hs hk0 hk1;generalize nr (k*(x1-x0)) (bg (x1-x0) (y1-y0))=p at a ⊢;generalize nr (k*(y1-y0)) (bg (x1-x0) (y1-y0))=q at b ⊢;unfold bB at h0 h1 ⊢;omega
def GV(l:List Int):Prop:=l.length≤24∧∀i:Nat,i<l.length→GC (l.getD i 0)
theorem uP(x0 y0 x1 y1:Int)(h0:bB x0 y0)(h1:bB x1 y1):GV (fE x0 y0 x1 y1):=by
 have hle:=uw x0 y0 x1 y1 h0 h1;unfold fE;refine⟨by rw[lh];omega,fun i hi=>?_⟩
 rw[lh]at hi;cases i with
 | zero =>
  show GC (cd x0 y0);unfold bB at h0;unfold GC cd;omega
 | succ i =>
  have e:(lcs x0 y0 x1 y1 (bg (x1-x0) (y1-y0)).toNat).getD (i+1) 0=lc x0 y0 x1 y1 (i+1):=by
   unfold lcs;rw[List.getD_eq_getElem?_getD,List.getElem?_cons_succ,List.getElem?_map,List.getElem?_range (by omega)]
   rfl
  rw[e];have:=uo x0 y0 x1 y1 ((i+1:Nat):Int) h0 h1 (by omega) (by omega) (by omega)
  unfold bB at this;unfold lc GC cd;omega
theorem D6(x0 y0 x1 y1:Int)(hs:0<bg (x1-x0) (y1-y0)):lc x0 y0 x1 y1 0=cd x0 y0:=by
 unfold lc;rw[Int.natCast_zero,Int.zero_mul,Int.zero_mul,wR _ hs,Int.add_zero,Int.add_zero]
theorem AX(x0 y0 x1 y1:Int)(hs:0<bg (x1-x0) (y1-y0))(n:Nat):(List.range (n+1)).map (lc x0 y0 x1 y1)=lcs x0 y0 x1 y1 n:=by
 unfold lcs;rw[List.range_succ_eq_map,List.map_cons,D6 _ _ _ _ hs,List.map_map];rfl
end Go.Proofs.YthdgahpomhnidaaGreat.Ln
namespace Go.Proofs.YthdgahpomhnidaaGreat.Ln
open Go Mx Pc Run Field
set_option maxHeartbeats 1000000
theorem B2(p n:Int)(hn:0<n)(hp:-1000≤p∧p≤1000):-3000≤nr p n∧nr p n<3000:=by
 unfold nr;exact⟨(Int.le_ediv_iff_mul_le (by omega)).2 (by omega),(Int.ediv_lt_iff_lt_mul (by omega)).2 (by omega)⟩
theorem rX(p n:Int)(hn:0<n)(hn2:n≤100)(hp:-1000≤p∧p≤1000):f229 p n=some (nr p n,()):=by
 have b:=B2 p n hn hp;unfold f229;unfold nr at *
 have n1:=Int.emod_nonneg (2*p+n) (show 2*n≠0 by omega)
 have n2:=Int.emod_lt_of_pos (2*p+n) (show 0<2*n by omega)
 rw[wr (x:=2*n) (by omega),wr (x:=2*p) (by omega),wr (x:=2*p+n) (by omega),af,if_neg (by omega),af,if_neg (by omega),af]
 rcases yr (2*p+n) (2*n) (by omega) with ⟨e1,e2,_⟩ | ⟨_,e0,e1,e2⟩
 ·rw[e1,e2,if_neg (by omega),wr (by omega)]
  rfl
 ·rw[e1,e2,if_pos (by omega),wr (x:=(2*p+n)/(2*n)+1) (by omega),wr (by omega)]
  show some (((2*p+n)/(2*n)+1-1),())=_;rw[Int.add_sub_cancel]
theorem AJ(p n:Int)(hn:0<n)(hn2:n≤100)(hp:-1000≤p∧p≤1000):f183 p n=some (nr p n,()):=(show f183 p n=f229 p n from rfl).trans (rX p n hn hn2 hp)
theorem Ed(x0 y0 x1 y1:Int)(h0:bB x0 y0)(h1:bB x1 y1):f226 x0 y0 x1 y1=some (fE x0 y0 x1 y1,()):=by
 have hle:=uw x0 y0 x1 y1 h0 h1;have h0':=h0;have h1':=h1;unfold bB at h0' h1';unfold f226;rw[fO x0 y0 (by omega) (by omega) (by omega) (by omega),if_pos h0']
 simp only[Option.bind_some];rw[af,if_neg (by omega),fO x1 y1 (by omega) (by omega) (by omega) (by omega),if_pos h1']
 simp only[Option.bind_some];have es:cz (cz (cz (IntKind.wrap .i64 (x1-x0)) (IntKind.wrap .i64 (x0-x1))) (IntKind.wrap .i64 (y1-y0))) (IntKind.wrap .i64 (y0-y1))=bg (x1-x0) (y1-y0):=by
  rw[wr (x:=x1-x0) (by omega),wr (x:=x0-x1) (by omega),wr (x:=y1-y0) (by omega),wr (x:=y0-y1) (by omega),gw,gw,gw]
  unfold bg;omega
 rw[af,if_neg (by omega),es]
 refine OK.eq ?_;unfold f226.L1;refine OK.loop (fun i:Nat=>(x0,y0,x1,y1,bg (x1-x0) (y1-y0),(i:Int)+1,lcs x0 y0 x1 y1 i,())) (fun i=>(i:Int)≤bg (x1-x0) (y1-y0)) (fun i=>30-i) (fun rec i hi ih=>?_) 0 rfl (by omega) (by decide)
 dsimp only at hi ih ⊢;rw[af]
 by_cases q:(i:Int)+1≤bg (x1-x0) (y1-y0)
 ·have hb:=uo x0 y0 x1 y1 ((i:Int)+1) h0 h1 (by omega) q (by omega)
  have p1:=jA ((i:Int)+1) (x1-x0) (by omega) (by omega)
  have p2:=jA ((i:Int)+1) (y1-y0) (by omega) (by omega)
  have hll:=lh x0 y0 x1 y1 i;rw[if_pos q,wr (x:=x1-x0) (by omega),wr (x:=y1-y0) (by omega),wr (x:=((i:Int)+1)*(x1-x0)) (by omega),wr (x:=((i:Int)+1)*(y1-y0)) (by omega),rX _ _ (by omega) (by omega) (by omega),rX _ _ (by omega) (by omega) (by omega)]
  simp only[Option.bind_some];have hb':=hb;unfold bB at hb';rw[wr (x:=x0+nr (((i:Int)+1)*(x1-x0)) (bg (x1-x0) (y1-y0))) (by omega),wr (x:=y0+nr (((i:Int)+1)*(y1-y0)) (bg (x1-x0) (y1-y0))) (by omega),fO _ _ (by omega) (by omega) (by omega) (by omega),if_pos hb']
  simp only[Option.bind_some];rw[decide_eq_true (by rw[hll];simp[aB];omega),cond_true,wr (x:=(i:Int)+1+1) (by omega)]
  refine ih (i+1) (by omega) (by omega) _ ?_
  rw[Cr];rfl
 ·rw[if_neg q]
  refine OK.ret ?_;unfold fE;rw[show (bg (x1-x0) (y1-y0)).toNat=i by omega]
theorem Ba(x0 y0 x1 y1:Int)(h0:bB x0 y0)(h1:bB x1 y1):f167 x0 y0 x1 y1=some (fE x0 y0 x1 y1,()):=by
 have hle:=uw x0 y0 x1 y1 h0 h1;have h0':=h0;have h1':=h1;unfold bB at h0' h1';unfold f167;rw[iY,decide_eq_true h0'];simp only[Option.bind_some,Bool.not_true,cond_false];rw[iY,decide_eq_true h1'];simp only[Option.bind_some,Bool.not_true,cond_false];have es:cz (cz (IntKind.wrap .i64 (x1-x0)) (IntKind.wrap .i64 (0-IntKind.wrap .i64 (x1-x0)))) (cz (IntKind.wrap .i64 (y1-y0)) (IntKind.wrap .i64 (0-IntKind.wrap .i64 (y1-y0))))=bg (x1-x0) (y1-y0):=by
  rw[wr (x:=x1-x0) (by omega),wr (x:=y1-y0) (by omega),wr (x:=0-(x1-x0)) (by omega),wr (x:=0-(y1-y0)) (by omega),gw,gw,gw]
  unfold bg;omega
 rw[es,wr (x:=x1-x0) (by omega),wr (x:=y1-y0) (by omega)]
 refine OK.eq ?_;refine OK.bif (fun q=>?_) (fun q=>?_)
 ·have q0:bg (x1-x0) (y1-y0)=0:=beq_iff_eq.1 q
  refine OK.ret ?_;unfold fE;rw[q0,wr (x:=y0*24) (by omega),wr (by omega)]
  rfl
 ·have q0:bg (x1-x0) (y1-y0)≠0:=beq_eq_false_iff_ne.1 q
  have hs:0<bg (x1-x0) (y1-y0):=by omega
  unfold f167.L1;refine OK.loop (fun i:Nat=>(x0,y0,x1-x0,y1-y0,bg (x1-x0) (y1-y0),(i:Int),(List.range i).map (lc x0 y0 x1 y1),())) (fun i=>(i:Int)≤bg (x1-x0) (y1-y0)+1) (fun i=>30-i) (fun rec i hi ih=>?_) 0 rfl (by omega) (by decide)
  dsimp only at hi ih ⊢;rw[af]
  by_cases q:(i:Int)≤bg (x1-x0) (y1-y0)
  ·have hb:=uo x0 y0 x1 y1 (i:Int) h0 h1 (by omega) q (by omega)
   have p1:=jA (i:Int) (x1-x0) (by omega) (by omega)
   have p2:=jA (i:Int) (y1-y0) (by omega) (by omega)
   have hb':=hb;unfold bB at hb';have n1:=B2 ((i:Int)*(x1-x0)) _ hs (by omega)
   have n2:=B2 ((i:Int)*(y1-y0)) _ hs (by omega)
   rw[if_pos q,wr (x:=(i:Int)*(y1-y0)) (by omega),wr (x:=(i:Int)*(x1-x0)) (by omega),AJ _ _ (by omega) (by omega) (by omega),AJ _ _ (by omega) (by omega) (by omega)]
   simp only[Option.bind_some];have e:IntKind.wrap .i64 (IntKind.wrap .i64 (IntKind.wrap .i64 (IntKind.wrap .i64 (y0+nr ((i:Int)*(y1-y0)) (bg (x1-x0) (y1-y0)))*24)+x0)+nr ((i:Int)*(x1-x0)) (bg (x1-x0) (y1-y0)))=lc x0 y0 x1 y1 i:=by
    unfold lc cd;generalize nr ((i:Int)*(y1-y0)) (bg (x1-x0) (y1-y0))=a at *
    generalize nr ((i:Int)*(x1-x0)) (bg (x1-x0) (y1-y0))=b at *
    rw[wr (x:=y0+a) (by omega),wr (x:=(y0+a)*24) (by omega),wr (x:=(y0+a)*24+x0) (by omega),wr (by omega)]
    omega
   rw[e,decide_eq_true (by simp[aB];omega),cond_true,wr (x:=(i:Int)+1) (by omega)]
   refine ih (i+1) (by omega) (by omega) _ ?_
   rw[List.range_succ,List.map_append];rfl
  ·rw[if_neg q]
   refine OK.ret ?_;unfold fE;rw[show i=(bg (x1-x0) (y1-y0)).toNat+1 by omega,AX _ _ _ _ hs]
def cu(v:Int):Bool:=aQ v&&v !=2
theorem CA(v:Int):f227 v=some (cu v,()):=by
 unfold f227 cu;rw[jS];cases aQ v<;>rfl
theorem yR(v:Int):f168 v=some (cu v,()):=by
 unfold f168 cu;rw[j3];cases aQ v<;>rfl
def yE(c L:List Int):Bool:=((List.range (L.length-2)).find? fun i=>!cu (c.getD (L.getD (i+1) 0).toNat 0)).isNone
def k6(c:List Int)(x0 y0 x1 y1:Int):Bool:=yE c (fE x0 y0 x1 y1)
theorem DG(c:List Int)(hc:CB c)(x0 y0 x1 y1:Int)(h0:bB x0 y0)(h1:bB x1 y1):f224 c x0 y0 x1 y1=some (k6 c x0 y0 x1 y1,()):=by
 unfold f224 k6;rw[Ed _ _ _ _ h0 h1];simp only[Option.bind_some];have hr:=uP x0 y0 x1 y1 h0 h1;have hl1:1≤(fE x0 y0 x1 y1).length:=by unfold fE;rw[lh];omega
 generalize fE x0 y0 x1 y1=L at *
 obtain⟨hr1,hr2⟩:=hr;unfold f224.L1 yE;refine(it_find (x:=(c,1,L,())) (fun i=>!cu (c.getD (L.getD (i+1) 0).toNat 0)) (L.length-2) (fun i:Nat=>(c,(i:Int)+1,L,())) (fun _=>some (false,())) (some (true,())) (fun rec i hi=>?_) (by omega) rfl).trans ?_
 ·dsimp only
  rw[af,wr (x:=(L.length:Int)-1) (by omega)]
  by_cases q:i<L.length-2
  ·have g:=hr2 (i+1) (by omega)
   have et:((i:Int)+1).toNat=i+1:=by omega
   have g0:=g.1;rw[if_pos q,if_pos (by omega),ao (by omega),cond_true,et,og c hc _ g0]
   simp only[Option.bind_some];rw[CA,wr (x:=(i:Int)+1+1) (by omega)]
   simp only[Option.bind_some];rw[cH];rfl
  ·rw[if_neg q,if_neg (by omega),decide_eq_true (by omega)]
 ·cases (List.range (L.length-2)).find? fun i=>!cu (c.getD (L.getD (i+1) 0).toNat 0)<;>rfl
theorem Ct(c:List Int)(hc:CB c)(x0 y0 x1 y1:Int)(h0:bB x0 y0)(h1:bB x1 y1):f144 c x0 y0 x1 y1=some (k6 c x0 y0 x1 y1,()):=by
 unfold f144 k6;rw[Ba _ _ _ _ h0 h1];simp only[Option.bind_some];have hr:=uP x0 y0 x1 y1 h0 h1;have hl1:1≤(fE x0 y0 x1 y1).length:=by unfold fE;rw[lh];omega
 generalize fE x0 y0 x1 y1=L at *
 obtain⟨hr1,hr2⟩:=hr;unfold f144.L1 yE;refine(it_find (x:=(c,1,L,())) (fun i=>!cu (c.getD (L.getD (i+1) 0).toNat 0)) (L.length-2) (fun i:Nat=>(c,(i:Int)+1,L,())) (fun _=>some (false,())) (some (true,())) (fun rec i hi=>?_) (by omega) rfl).trans ?_
 ·dsimp only
  rw[af,wr (x:=(i:Int)+1+1) (by omega)]
  by_cases q:i<L.length-2
  ·have g:=hr2 (i+1) (by omega)
   have et:((i:Int)+1).toNat=i+1:=by omega
   have g0:=g;unfold GC at g0;rw[if_pos q,if_pos (by omega),ao (by omega),cond_true,cond_true,et,Int.tmod_eq_emod_of_nonneg g0.1,Int.tdiv_eq_ediv_of_nonneg g0.1,wr (x:=L.getD (i+1) 0/24) (by omega),qn c hc]
   have hin:bB (L.getD (i+1) 0%24) (L.getD (i+1) 0/24):=by unfold bB;omega
   rw[if_pos hin];simp only[Option.bind_some];have ec:cd (L.getD (i+1) 0%24) (L.getD (i+1) 0/24)=L.getD (i+1) 0:=by unfold cd;omega
   rw[yR,ec];simp only[Option.bind_some];rw[cH];rfl
  ·rw[if_neg q,if_neg (by omega),decide_eq_true (by omega)]
 ·cases (List.range (L.length-2)).find? fun i=>!cu (c.getD (L.getD (i+1) 0).toNat 0)<;>rfl
end Go.Proofs.YthdgahpomhnidaaGreat.Ln
namespace Go.Proofs.YthdgahpomhnidaaGreat.Ln
open Go Mx Pc Run Field
set_option maxHeartbeats 1000000
set_option maxRecDepth 10000
def jk(n q:Int):Prop:=0≤q∧q*q≤n∧n<(q+1)*(q+1)
theorem xu{n q r:Int}(hq:jk n q)(hr:jk n r):q≤r:=by
 obtain⟨a,b,_⟩:=hq;obtain⟨d,_,e⟩:=hr;rcases Int.lt_or_le r q with h | h
 ·have:=Int.mul_le_mul (show r+1≤q by omega) (show r+1≤q by omega) (by omega) a
  omega
 ·exact h
theorem BI{n q r:Int}(hq:jk n q)(hr:jk n r):q=r:=by
 have:=xu hq hr;have:=xu hr hq;omega
def bt:Nat→Int
 | 0=>0
 | m+1=>2 ^ m
theorem oe(m:Nat):(2:Int) ^ (m+1)=2*2 ^ m:=by rw[Int.pow_succ];omega
theorem qA(m:Nat):(1:Int)≤2 ^ m:=by
 have:(0:Int)<2 ^ m:=Int.pow_pos (by decide)
 omega
theorem wT(m:Nat):(2:Int) ^ m/2=bt m:=by
 cases m with
 | zero=>rfl
 | succ m =>
  rw[oe];show _=(2:Int) ^ m;omega
theorem FX:jz.size=256∧∀v,v<256→v<2 ^ (jz.data.getD v 0).toNat∧(jz.data.getD v 0).toNat≤8:=by
 have h:(jz.size==256&&(List.range 256).all fun v=>decide (v<2 ^ (jz.data.getD v 0).toNat)&&decide ((jz.data.getD v 0).toNat≤8))=true:=by decide +kernel
 rw[Bool.and_eq_true]at h;refine⟨beq_iff_eq.1 h.1,fun v hv=>?_⟩
 have:=List.all_eq_true.1 h.2 v (List.mem_range.2 hv);rw[Bool.and_eq_true]at this;exact⟨of_decide_eq_true this.1,of_decide_eq_true this.2⟩
theorem H6{x:Int}(h:0≤x∧x<256):IntKind.wrap .u8 x=x:=by
 have e:IntKind.wrap .u8 x=x%256:=by simp[IntKind.wrap,IntKind.signed,IntKind.bits]
 rw[e];omega
theorem Ge(n:Int)(h:0≤n∧n<4294967296):OK (f228 n) fun z=>∃L:Nat,z.1=(L:Int)∧L≤32∧n<2 ^ L:=by
 unfold f228;refine OK.aD (R:=fun z=>∃L:Nat,z.1=(L:Int)∧L≤32∧n<2 ^ L) ?_ (fun z hz=>OK.ret hz)
 unfold f231;obtain⟨ts,tv⟩:=FX;have e16:(2:Int) ^ Min.min 16 (IntKind.bits .u64)=65536:=by decide
 have e8:(2:Int) ^ Min.min 8 (IntKind.bits .u64)=256:=by decide
 rw[af,if_neg (by omega)]
 simp only[Option.bind_some,Sum.elim_inl,e16,e8];refine OK.aD (R:=fun z=>∃v s:Nat,z=Sum.inl ((v:Int),(s:Int),())∧(s=0∨s=16)∧v<65536∧n<((v:Int)+1)*2 ^ s) ?_ ?_
 ·rw[af]
  split
  ·refine OK.ret ⟨(n/65536).toNat,16,?_,.inr rfl,by omega,by rw[show (2:Int) ^ 16=65536 by decide];omega⟩
   rw[Int.fdiv_eq_ediv_of_nonneg _ (by decide),show IntKind.wrap .i64 ((0:Int)+16)=16 from wr (by omega),Int.toNat_of_nonneg (by omega)]
   rfl
  ·refine OK.ret ⟨n.toNat,0,?_,.inl rfl,by omega,by rw[Int.pow_zero];omega⟩
   rw[Int.toNat_of_nonneg (by omega)]
   rfl
 ·rintro z ⟨v,s,rfl,hs,hv,hn⟩
  simp only[Sum.elim_inl];refine OK.aD (R:=fun z=>∃v s:Nat,z=Sum.inl ((v:Int),(s:Int),())∧s≤24∧v<256∧n<((v:Int)+1)*2 ^ s) ?_ ?_
  ·rw[af]
   split
   ·refine OK.ret ⟨v/256,s+8,?_,by omega,by omega,?_⟩
    ·rw[Int.fdiv_eq_ediv_of_nonneg _ (by decide),show IntKind.wrap .i64 ((s:Int)+8)=((s+8:Nat):Int) by rw[wr (by omega)];omega]
     rw[show ((v/256:Nat):Int)=(v:Int)/256 by omega]
    ·rcases hs with rfl | rfl
     ·rw[Int.pow_zero]at hn
      rw[show (2:Int) ^ (0+8)=256 by decide]
      omega
     ·rw[show (2:Int) ^ 16=65536 by decide]at hn
      rw[show (2:Int) ^ (16+8)=16777216 by decide]
      omega
   ·exact OK.ret ⟨v,s,rfl,by omega,by omega,hn⟩
  ·rintro z ⟨v,s,rfl,hs,hv,hn⟩
   simp only[Sum.elim_inl];obtain⟨t1,t2⟩:=tv v hv;rw[H6 (by omega),ao (by rw[ts];omega),cond_true,Int.toNat_natCast]
   generalize (jz.data.getD v 0).toNat=T at *
   refine OK.ret ⟨s+T,?_,by omega,?_⟩
   ·show IntKind.wrap .i64 ((s:Int)+IntKind.wrap .i64 (T:Int))=_
    rw[wr (x:=(T:Int)) (by omega),wr (by omega)]
    omega
   ·have p:((v:Int)+1)≤2 ^ T:=by
     have:((v:Nat):Int)<((2 ^ T:Nat):Int):=by exact_mod_cast t1
     rw[Int.natCast_pow]at this;exact this
    have q:(0:Int)≤2 ^ s:=by have:=qA s;omega
    have:=Int.mul_le_mul_of_nonneg_right p q;rw[Int.pow_add,Int.mul_comm];omega
theorem Ey{n:Int}(h:0≤n∧n<18446744073709551616):IntKind.u64.wrap n=n:=by
 have e:IntKind.u64.wrap n=n%18446744073709551616:=by simp[IntKind.wrap,IntKind.signed,IntKind.bits]
 rw[e];omega
theorem tC{a b:Int}(ha:0≤a)(h:a≤b):a*a≤b*b:=Int.mul_le_mul h h ha (by omega)
theorem Dz(n:Int)(h:0≤n∧n<4294967296):OK (f225 n) fun z=>jk n z.1:=by
 unfold f225;rw[af]
 by_cases q:n<1
 ·rw[if_pos q]
  have:n=0:=by omega
  subst this;exact OK.ret ⟨by decide,by decide,by decide⟩
 ·rw[if_neg q,Ey (by omega)]
  refine OK.aD (Ge n h) fun z hz=>?_
  obtain⟨L,e,hL,hn⟩:=hz;have e2:IntKind.wrap .i64 (Int.tdiv (L:Int) 2)=((L/2:Nat):Int):=by
   rw[Int.tdiv_eq_ediv_of_nonneg (by omega),wr (by omega)]
   omega
  have e64:Min.min (L/2) (IntKind.bits .i64)=L/2:=by
   have:IntKind.bits .i64=64:=rfl;omega
  rw[e,e2,af,if_neg (by omega),Int.toNat_natCast,e64,Int.one_mul]
  have hpow:∀L:Nat,L≤32→(2:Int) ^ L≤2 ^ (L/2+1)*2 ^ (L/2+1)∧(2:Int) ^ (L/2+1)≤131072:=by decide
  obtain⟨p1,p2⟩:=hpow L hL;have b1:=oe (L/2);have b2:=qA (L/2);rw[wr (by omega)]
  unfold f225.L1;refine OK.loop (fun j:Nat×Int=>(n,j.2,bt j.1,())) (fun j=>0≤j.2∧j.2*j.2≤n∧n<(j.2+2 ^ j.1)*(j.2+2 ^ j.1)∧j.2+2 ^ j.1≤131072) (fun j=>j.1) (fun rec j hj ih=>?_) (L/2+1,0) rfl ⟨by dsimp only;omega,by dsimp only;omega,by dsimp only;rw[Int.zero_add];omega,by dsimp only;omega⟩ (by dsimp only;omega)
  obtain⟨m,r⟩:=j;obtain⟨h0,h1,h2,h3⟩:=hj;dsimp only at h0 h1 h2 h3 ih ⊢;cases m with
  | zero =>
   rw[af,if_neg (by unfold bt;decide)]
   rw[Int.pow_zero]at h2;exact OK.ret ⟨h0,h1,h2⟩
  | succ m =>
   have pm:=qA m;have ps:=oe m;rw[ps]at h2 h3;have eb:bt (m+1)=2 ^ m:=rfl;have ef:Int.fdiv (2 ^ m) (2 ^ Min.min 1 (IntKind.bits .i64))=bt m:=by
    rw[show (2:Int) ^ Min.min 1 (IntKind.bits .i64)=2 by decide,Int.fdiv_eq_ediv_of_nonneg _ (by decide),wT]
   rw[af,eb,if_pos (by omega),wr (x:=r+2 ^ m) (by omega),af,if_neg (by omega),af,ef,Int.tdiv_eq_ediv_of_nonneg h.1]
   have kd:=Int.ediv_le_self (r+2 ^ m) h.1;have kn:=Int.ediv_nonneg h.1 (show 0≤r+2 ^ m by omega)
   rw[wr (by omega)]
   have key:r+2 ^ m≤n/(r+2 ^ m)↔(r+2 ^ m)*(r+2 ^ m)≤n:=Int.le_ediv_iff_mul_le (by omega)
   by_cases c:(r+2 ^ m)*(r+2 ^ m)≤n
   ·rw[if_pos (key.2 c)]
    refine ih (m,r+2 ^ m) ⟨by dsimp only;omega,c,?_,by dsimp only;omega⟩ (by dsimp only;omega) _ rfl
    dsimp only;rw[show r+2 ^ m+2 ^ m=r+2*2 ^ m by omega]
    exact h2
   ·rw[if_neg (fun x=>c (key.1 x))]
    exact ih (m,r) ⟨h0,h1,by dsimp only;omega,by dsimp only;omega⟩ (by dsimp only;omega) _ rfl
theorem BL(n:Int)(h:0≤n∧n<4294967296):OK (f166 n) fun z=>jk n z.1:=by
 unfold f166 f166.L1;have e32:(2:Int) ^ 32=4294967296:=by decide
 refine OK.loop (fun j:Nat×Int=>(n,j.2,bt j.1,())) (fun j=>0≤j.2∧j.2*j.2≤n∧n<(j.2+2 ^ j.1)*(j.2+2 ^ j.1)∧j.2+2 ^ j.1≤4294967296) (fun j=>j.1) (fun rec j hj ih=>?_) (32,0) rfl ⟨by dsimp only;omega,by dsimp only;omega,by dsimp only;rw[e32];omega,by dsimp only;rw[e32];omega⟩ (by dsimp only;decide)
 obtain⟨m,r⟩:=j;obtain⟨h0,h1,h2,h3⟩:=hj;dsimp only at h0 h1 h2 h3 ih ⊢;cases m with
 | zero =>
  rw[af,if_neg (by unfold bt;decide)]
  rw[Int.pow_zero]at h2;exact OK.ret ⟨h0,h1,h2⟩
 | succ m =>
  have pm:=qA m;have ps:=oe m;rw[ps]at h2 h3;have eb:bt (m+1)=2 ^ m:=rfl;have ef:IntKind.wrap .i64 (Int.tdiv (2 ^ m) 2)=bt m:=by
   rw[Int.tdiv_eq_ediv_of_nonneg (by omega),wr (by omega),wT]
  rw[af,eb,if_pos (by omega),wr (x:=r+2 ^ m) (by omega),af,ef]
  have no:¬(r+2 ^ m)*(r+2 ^ m)≤n→OK (rec (n,r,bt m,())) fun z=>jk n z.1:=fun c=>ih (m,r) ⟨h0,h1,by dsimp only;omega,by dsimp only;omega⟩ (by dsimp only;omega) _ rfl
  by_cases c0:r+2 ^ m≤3037000499
  ·have s1:=tC (show 0≤r+2 ^ m by omega) c0
   have s2:=Int.mul_nonneg (show 0≤r+2 ^ m by omega) (show 0≤r+2 ^ m by omega)
   rw[if_pos c0,af,wr (x:=(r+2 ^ m)*(r+2 ^ m)) (by omega)]
   by_cases c:(r+2 ^ m)*(r+2 ^ m)≤n
   ·rw[if_pos c]
    refine ih (m,r+2 ^ m) ⟨by dsimp only;omega,c,?_,by dsimp only;omega⟩ (by dsimp only;omega) _ rfl
    dsimp only;rw[show r+2 ^ m+2 ^ m=r+2*2 ^ m by omega]
    exact h2
   ·rw[if_neg c]
    exact no c
  ·rw[if_neg c0]
   refine no fun c=>?_
   have s1:=tC (show (0:Int)≤3037000499 by decide) (show 3037000499≤r+2 ^ m by omega)
   omega
theorem F6{d:Int}(h:-23≤d∧d≤23):0≤d*d∧d*d≤529:=by
 rcases Int.le_total 0 d with q | q
 ·have:=tC q h.2
  have:=Int.mul_nonneg q q;omega
 ·have:=tC (show 0≤-d by omega) (show -d≤23 by omega)
  have:=Int.mul_nonneg (show 0≤-d by omega) (show 0≤-d by omega)
  rw[Int.neg_mul_neg]at *
  omega
noncomputable def dst(dx dy:Int):Int:=((f143 dx dy).getD (0,())).1
theorem wO(dx dy:Int)(hx:-23≤dx∧dx≤23)(hy:-23≤dy∧dy≤23):f223 dx dy=some (dst dx dy,())∧f143 dx dy=some (dst dx dy,())∧jk (65536*(dx*dx+dy*dy)) (dst dx dy):=by
 have a:=F6 hx;have b:=F6 hy;have ea:IntKind.wrap .i64 (65536*IntKind.wrap .i64 (IntKind.wrap .i64 (dx*dx)+IntKind.wrap .i64 (dy*dy)))=65536*(dx*dx+dy*dy):=by
  rw[wr (x:=dx*dx) (by omega),wr (x:=dy*dy) (by omega),wr (x:=dx*dx+dy*dy) (by omega),wr (by omega)]
 obtain⟨z1,e1,r1⟩:=Dz (65536*(dx*dx+dy*dy)) (by omega)
 obtain⟨z2,e2,r2⟩:=BL (65536*(dx*dx+dy*dy)) (by omega)
 have er:f143 dx dy=some (z2.1,()):=by
  unfold f143;rw[ea,e2];rfl
 have ed:dst dx dy=z2.1:=by unfold dst;rw[er];rfl
 refine⟨?_,by rw[ed];exact er,by rw[ed];exact r2⟩
 unfold f223;rw[ea,e1,ed,BI r2 r1];rfl
end Go.Proofs.YthdgahpomhnidaaGreat.Ln
namespace Go.Proofs.YthdgahpomhnidaaGreat.Mn
open Go Mx Pc Run Field Gen GenL Fl Wd Ft Ln Nav
set_option maxHeartbeats 2000000
theorem iR{l:List ag}(h:cM l){i:Nat}(hi:i<32)(hk:kd (l.getD i eN)≠0):bB (ex (l.getD i eN)) (ey (l.getD i eN)):=by
 rcases h.at_ i (by rw[h.len];exact hi) with q | q
 ·exact absurd q hk
 ·exact q
def dp(c:List Int)(x y:Int):Int:=if 0≤x∧x<24∧0≤y∧y<16 then Field.rd c (y*24+x) else 0
theorem tf(c:List Int)(hc:CB c)(x y:Int):f86 c x y=some (dp c x y,()):=by
 rw[qn c hc];unfold dp bB cd
 by_cases h:0≤x∧x<24∧0≤y∧y<16
 ·rw[if_pos h,if_pos h]
 ·rw[if_neg h,if_neg h]
theorem tk(c:List Int)(hc:CB c)(x y:Int)(hx:-1000≤x∧x≤1000)(hy:-1000≤y∧y≤1000):f95 c x y=some (dp c x y,()):=by
 unfold f95 dp;rw[fO x y hx.1 hx.2 hy.1 hy.2];simp only[Option.bind_some]
 by_cases h:0≤x∧x<24∧0≤y∧y<16
 ·rw[if_pos h,if_pos h,og c hc _ (by omega)]
  rfl
 ·rw[if_neg h,if_neg h]
  rfl
theorem Ej{x y:Int}(h:bB x y):cd x y%24=x∧cd x y/24=y∧GC (cd x y):=by
 unfold bB at h;unfold cd GC;omega
noncomputable def jw(a b x y:Int):Int:=((f145 a b x y).getD (0,())).1
def GJ(a b x y v:Int):Prop:=(∃j:Nat,j<4∧v=1+(j:Int)∧x-a=ddx j∧y-b=bf j)∨(v=0∧∀j:Nat,j<4→¬(x-a=ddx j∧y-b=bf j))
theorem xE{a b x y:Int}(h0:bB a b)(h1:bB x y):f222 a b x y=some (jw a b x y,())∧f145 a b x y=some (jw a b x y,())∧GJ a b x y (jw a b x y):=by
 unfold bB at h0 h1;obtain⟨v,e1,e2⟩:=Ee a b x y (by omega) (by omega) (by omega) (by omega)
 have ev:jw a b x y=v:=by unfold jw;rw[e2];rfl
 rw[ev];refine⟨e1,e2,?_⟩;obtain⟨z,ez,hz⟩:=sR a b x y;rw[e1]at ez;injection ez with ez
 subst ez;rw[wr (x:=x-a) (by omega),wr (x:=y-b) (by omega)]at hz
 exact hz
noncomputable def jt(c:List Int)(l:List ag)(m t:Int):Int:=((f138 c l (m%24) (m/24) [t]).getD (0,())).1
theorem Ek{c:List Int}(hc:CB c){l:List ag}(h:cM l){m:Int}(hm:GC m)(t:Int):f16 c l (m%24) (m/24) [t]=some (jt c l m t,())∧f138 c l (m%24) (m/24) [t]=some (jt c l m t,()) ∧
  ∃f,bm (bj c (cP m l 32)) (eL c [t]) f∧TW l f m (jt c l m t):=by
 obtain⟨v,e1,e2⟩:=Es c hc l h (m%24) (m/24) [t] (by simp)
 have ev:jt c l m t=v:=by unfold jt;rw[e2];rfl
 rw[ev];refine⟨e1,e2,?_⟩;obtain⟨z,ez,hz⟩:=sM c hc l h m hm [t] (by simp)
 rw[e1]at ez;injection ez with ez
 subst ez;exact hz
theorem p9{c:List Int}(hc:CB c){l:List ag}(h:cM l){x y:Int}(hg:bB x y)(t:Int):f16 c l x y [t]=some (jt c l (cd x y) t,())∧f138 c l x y [t]=some (jt c l (cd x y) t,()):=by
 obtain⟨a,b,d⟩:=Ej hg;obtain⟨e1,e2,_⟩:=Ek hc h d t;rw[a,b]at e1 e2;exact⟨e1,e2⟩
theorem tJ(e:ag)(hg:bB (ex e) (ey e))(j:Nat)(hj:j<4):f214 e.1 e.2.1 e.2.2.1 e.2.2.2.1 e.2.2.2.2.1 e.2.2.2.2.2.1 e.2.2.2.2.2.2.1 e.2.2.2.2.2.2.2.1 e.2.2.2.2.2.2.2.2.1 e.2.2.2.2.2.2.2.2.2.1 e.2.2.2.2.2.2.2.2.2.2 (1+(j:Int))=some (ex e+ddx j,ey e+bf j,()):=by
 have d:=dd j hj;unfold bB ex ey at hg;unfold f214;rw[qH j hj];simp only[Option.bind_some];rw[cF (x:=e.2.2.2.1) (by omega),cF (x:=e.2.2.2.2.1) (by omega),cF (x:=ddx j) (by omega),cF (x:=bf j) (by omega),cF (x:=e.2.2.2.1+ddx j) (by omega),cF (x:=e.2.2.2.2.1+bf j) (by omega)]
 rfl
section
variable (c:List Int) (l:List ag)
noncomputable def qi(e:ag)(b:Int×Int)(s:Nat):Int×Int :=
 if ai l s<0 then b else
 if dst (ex (l.getD (ai l s).toNat eN)-ex e) (ey (l.getD (ai l s).toNat eN)-ey e)≤1536∧(b.1<0∨dst (ex (l.getD (ai l s).toNat eN)-ex e) (ey (l.getD (ai l s).toNat eN)-ey e)<b.2)∧k6 c (ex e) (ey e) (ex (l.getD (ai l s).toNat eN)) (ey (l.getD (ai l s).toNat eN))=true
 then (ai l s,dst (ex (l.getD (ai l s).toNat eN)-ex e) (ey (l.getD (ai l s).toNat eN)-ey e)) else b
noncomputable def seen(e:ag)(n:Nat):Int×Int:=(List.range n).foldl (qi c l e) (-1,0)
theorem nB(e:ag)(n:Nat):seen c l e (n+1)=qi c l e (seen c l e n) n:=by
 unfold seen;rw[List.range_succ,List.foldl_append];rfl
noncomputable def yK(sd fr row:Int)(e:ag)(b:Int):Int :=
 if 0≤b then
  if jw (ex e) (ey e) (ex (l.getD b.toNat eN)) (ey (l.getD b.toNat eN))≠0 then jw (ex e) (ey e) (ex (l.getD b.toNat eN)) (ey (l.getD b.toNat eN))
  else jt c l (cd (ex e) (ey e)) (ey (l.getD b.toNat eN)*24+ex (l.getD b.toNat eN))
 else if 1≤dz 8 sd [fr,row,90]∧dz 8 sd [fr,row,90]≤4∧aQ (dp c (ex e+ddx (dz 8 sd [fr,row,90]-1).toNat) (ey e+bf (dz 8 sd [fr,row,90]-1).toNat))=true ∧
   cg l (ex e+ddx (dz 8 sd [fr,row,90]-1).toNat) (ey e+bf (dz 8 sd [fr,row,90]-1).toNat)<0 then dz 8 sd [fr,row,90] else 0
noncomputable def gN(sd fr row:Int):Int :=
 if row<0∨32≤row∨kd (l.getD row.toNat eN)=0∨kd (l.getD row.toNat eN)=1 then 0
 else yK c l sd fr row (l.getD row.toNat eN) (seen c l (l.getD row.toNat eN) 4).1
end
theorem cI{l:List ag}(hl:l.length=32){s:Int}(h:¬ai l s<0):∃r:Nat,r<32∧ai l s=r∧kd (l.getD r eN)=1∧st (l.getD r eN)=s∧∀j,j<r→¬(kd (l.getD j eN)=1∧st (l.getD j eN)=s):=by
 obtain⟨k,h1,h2,h3,h4⟩:=dX h;unfold bC at h3;rw[Bool.and_eq_true,beq_iff_eq,beq_iff_eq]at h3;refine⟨k,by omega,h2,h3.1,h3.2,fun j hj hh=>?_⟩
 have:=h4 j hj;unfold bC at this;rw[hh.1,hh.2]at this;simp at this
theorem zI(c:List Int){l:List ag}(hl:l.length=32)(e:ag):∀n,(seen c l e n).1=-1∨∃s:Nat,s<n∧¬ai l s<0∧(seen c l e n).1=ai l s∧k6 c (ex e) (ey e) (ex (l.getD (ai l s).toNat eN)) (ey (l.getD (ai l s).toNat eN))=true
 | 0=>.inl rfl
 | n+1=>by
  rw[nB];have ih:=zI c hl e n;have au:(seen c l e n).1=-1∨∃s:Nat,s<n+1∧¬ai l s<0∧(seen c l e n).1=ai l s∧k6 c (ex e) (ey e) (ex (l.getD (ai l s).toNat eN)) (ey (l.getD (ai l s).toNat eN))=true:=by
   rcases ih with q | ⟨s,a,b,d⟩
   ·exact .inl q
   ·exact .inr ⟨s,by omega,b,d⟩
  unfold qi;split
  ·exact au
  ·rename_i h0
   split
   ·rename_i h1
    exact .inr ⟨n,by omega,h0,rfl,h1.2.2⟩
   ·exact au
section
variable (a0 a1 a2 a3 a7 a8 a9 a10:Int) {c:List Int} (hc:CB c) {l:List ag} (hE:cM l) (its:List ak)
include hc hE
theorem EO(e:ag)(he:bB (ex e) (ey e)):f221 a0 a1 a2 a3 c l its a7 a8 a9 a10 e.1 e.2.1 e.2.2.1 e.2.2.2.1 e.2.2.2.2.1 e.2.2.2.2.2.1 e.2.2.2.2.2.2.1 e.2.2.2.2.2.2.2.1 e.2.2.2.2.2.2.2.2.1 e.2.2.2.2.2.2.2.2.2.1 e.2.2.2.2.2.2.2.2.2.2=some ((seen c l e 4).1,()):=by
 have hl:=hE.len;refine OK.eq ?_;unfold f221 f221.L1;refine OK.loop (fun j:Nat=>((seen c l e j).1,(seen c l e j).2,(j:Int),a0,a1,a2,a3,c,l,its,a7,a8,a9,a10,e.1,e.2.1,e.2.2.1,e.2.2.2.1,e.2.2.2.2.1,e.2.2.2.2.2.1,e.2.2.2.2.2.2.1,e.2.2.2.2.2.2.2.1,e.2.2.2.2.2.2.2.2.1,e.2.2.2.2.2.2.2.2.2.1,e.2.2.2.2.2.2.2.2.2.2,())) (fun j=>j≤4) (fun j=>4-j) (fun rec j hj ih=>?_) 0 rfl (Nat.zero_le _) (by decide)
 dsimp only at hj ih ⊢;rw[af]
 by_cases q:j<4
 ·have nx:=ih (j+1) (by omega) (by omega) _ rfl
  rw[nB]at nx;rw[if_pos (by omega),gY l hl,wr (x:=(j:Int)+1) (by omega)]
  simp only[Option.bind_some];rw[af];unfold qi at nx
  by_cases h0:ai l j<0
  ·rw[if_pos h0]at nx
   rw[if_pos h0];exact nx
  ·rw[if_neg h0]at nx
   obtain⟨r,hr,er,hk,_⟩:=cI hl h0;have hg:=iR hE hr (by rw[hk];decide)
   rw[er,Int.toNat_natCast]at nx;rw[if_neg h0,er,ao (by omega),cond_true,Int.toNat_natCast]
   have hg':=hg;unfold bB at hg' he;have ex1:(l.getD r Run.zE).2.2.2.1=ex (l.getD r eN):=rfl;have ey1:(l.getD r Run.zE).2.2.2.2.1=ey (l.getD r eN):=rfl;have ex2:e.2.2.2.1=ex e:=rfl;have ey2:e.2.2.2.2.1=ey e:=rfl;rw[ex1,ey1,ex2,ey2,wr (x:=ex (l.getD r eN)-ex e) (by omega),wr (x:=ey (l.getD r eN)-ey e) (by omega),(wO _ _ (by omega) (by omega)).1]
   simp only[Option.bind_some];have hs:=DG c hc (ex e) (ey e) _ _ he hg;rw[hs];simp only[Option.bind_some];generalize dst (ex (l.getD r eN)-ex e) (ey (l.getD r eN)-ey e)=D at *
   rw[af,af,af];rw[ex2,ey2]at nx;generalize k6 c (ex e) (ey e) (ex (l.getD r eN)) (ey (l.getD r eN))=S at *
   by_cases d1:D≤1536
   ·rw[if_pos d1]
    by_cases d2:(seen c l e j).1<0
    ·rw[if_pos d2]
     cases S with
     | true=>rw[if_pos ⟨d1,.inl d2,rfl⟩]at nx;exact nx
     | false=>rw[if_neg (fun z=>by cases z.2.2)]at nx;exact nx
    ·rw[if_neg d2]
     by_cases d3:D<(seen c l e j).2
     ·rw[if_pos d3]
      cases S with
      | true=>rw[if_pos ⟨d1,.inr d3,rfl⟩]at nx;exact nx
      | false=>rw[if_neg (fun z=>by cases z.2.2)]at nx;exact nx
     ·rw[if_neg d3]
      rw[if_neg (fun z=>by rcases z.2.1 with w | w<;>contradiction)]at nx
      exact nx
   ·rw[if_neg d1]
    rw[if_neg (fun z=>d1 z.1)]at nx
    exact nx
 ·have:j=4:=by omega
  subst this;rw[if_neg (by omega)]
  exact OK.ret rfl
end
end Go.Proofs.YthdgahpomhnidaaGreat.Mn

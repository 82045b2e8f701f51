import Derived.Laws.FloatArith
import Derived.Laws.ComplexArith
import Derived.Test.YthdgahpomhnidaaGreatZ1
set_option linter.unusedVariables false
set_option autoImplicit false
namespace Go.Proofs.YthdgahpomhnidaaGreatF
open Ieee
def sg(s:Bool)(m:Nat):Int:=if s then -(m:Int) else m
def Stands(s:Bool)(m:Nat)(e n:Int):Prop:=sg s m*2 ^ e.toNat=n*2 ^ (-e).toNat
def Rep(b:Nat)(n:Int):Prop:=∃s m e,Ieee.double.read b=.number s m e∧Stands s m e n
theorem sg_natAbs(s:Bool)(m:Nat):(sg s m).natAbs=m:=by unfold sg;split<;>simp
theorem pow_pos'(k:Nat):(0:Int)<2 ^ k:=Int.pow_pos (by decide)
theorem stands_abs{s:Bool}{m:Nat}{e n:Int}(h:Stands s m e n):m*2 ^ e.toNat=n.natAbs*2 ^ (-e).toNat:=by
 have:=congrArg Int.natAbs h;rw[Int.natAbs_mul,Int.natAbs_mul,sg_natAbs,Int.natAbs_pow,Int.natAbs_pow]at this;exact this
theorem stands_sign{s:Bool}{m:Nat}{e n:Int}(h:Stands s m e n):n=sg s n.natAbs:=by
 have p:=pow_pos' e.toNat;have q:=pow_pos' (-e).toNat;unfold Stands at h;unfold sg at h ⊢;cases s
 ·simp only[Bool.false_eq_true,if_false]at h ⊢
  have h1:0≤n*2 ^ (-e).toNat:=by rw[←h];exact Int.mul_nonneg (by omega) (by omega)
  have:0≤n:=by
   rcases(by omega:n<0∨0≤n) with h2 | h2
   ·have:=Int.mul_neg_of_neg_of_pos h2 q
    omega
   ·exact h2
  omega
 ·simp only[if_true]at h ⊢
  have h1:n*2 ^ (-e).toNat≤0:=by
   rw[←h,Int.neg_mul];have:=Int.mul_nonneg (Int.natCast_nonneg m) (Int.le_of_lt p);omega
  have:n≤0:=by
   rcases(by omega:0<n∨n≤0) with h2 | h2
   ·have:=Int.mul_pos h2 q
    omega
   ·exact h2
  omega
theorem log2_mul_pow{n:Nat}(hn:n≠0)(j:Nat):(n*2 ^ j).log2=n.log2+j:=by
 induction j with
 | zero=>simp
 | succ j ih =>
  have h:n*2 ^ j≠0:=Nat.mul_ne_zero hn (Nat.ne_of_gt (Nat.two_pow_pos j));rw[Nat.pow_succ,←Nat.mul_assoc,Nat.mul_comm _ 2,Nat.log2_two_mul h,ih];omega
theorem cut_zero_drop(way:Toward)(neg:Bool)(n:Nat):way.cut neg n 0=n:=by
 unfold Toward.cut;have h0:min 0 (n.log2+2)=0:=by omega
 rw[h0];cases way<;>simp[Nat.mod_one]
theorem cut_pow(way:Toward)(neg:Bool){n:Nat}(hn:n≠0)(d:Nat):way.cut neg (n*2 ^ d) d=n:=by
 unfold Toward.cut;have hl:=log2_mul_pow hn d;have h0:min d ((n*2 ^ d).log2+2)=d:=by omega
 have hp:=Nat.two_pow_pos d;simp only[h0];have h1:(1 <<< d:Nat)=2 ^ d:=by rw[Nat.shiftLeft_eq];omega
 rw[h1,Nat.mul_div_cancel _ hp,Nat.mul_mod_left];cases way<;>simp<;>omega
theorem kept_is(m:Nat)(e:Int)(N:Nat)(hN:N≠0)(hb:N<2 ^ 53)(h:m*2 ^ e.toNat=N*2 ^ (-e).toNat)(neg:Bool) :
  m≠0∧max (e+m.log2-52) (-1074)=(N.log2:Int)-52 ∧
  Toward.even.cut neg (m <<< (e-((N.log2:Int)-52)).toNat) (((N.log2:Int)-52)-e).toNat=N*2 ^ (52-N.log2):=by
 have hl:N.log2≤52:=by have:=(Nat.log2_lt hN).2 hb;omega
 have hm:m≠0:=by
  intro h0;subst h0;rw[Nat.zero_mul]at h;have:=Nat.mul_ne_zero hN (Nat.ne_of_gt (Nat.two_pow_pos (-e).toNat));omega
 refine⟨hm,?_,?_⟩
 ·rcases(by omega:e<0∨0≤e) with he | he
  ·have e0:e.toNat=0:=by omega
   rw[e0,Nat.pow_zero,Nat.mul_one]at h;have:=log2_mul_pow hN (-e).toNat;rw[←h]at this;omega
  ·have e0:(-e).toNat=0:=by omega
   rw[e0,Nat.pow_zero,Nat.mul_one]at h;have:=log2_mul_pow hm e.toNat;rw[h]at this;omega
 ·rw[Nat.shiftLeft_eq]
  rcases(by omega:e<(N.log2:Int)-52∨(N.log2:Int)-52≤e) with he | he
  ·have e0:(e-((N.log2:Int)-52)).toNat=0:=by omega
   have e1:e.toNat=0:=by omega
   rw[e1,Nat.pow_zero,Nat.mul_one]at h;rw[e0,Nat.pow_zero,Nat.mul_one,h];have e2:(-e).toNat=(52-N.log2)+((N.log2:Int)-52-e).toNat:=by omega
   rw[e2,Nat.pow_add,←Nat.mul_assoc];exact cut_pow _ _ (Nat.mul_ne_zero hN (Nat.ne_of_gt (Nat.two_pow_pos _))) _
  ·have e0:((N.log2:Int)-52-e).toNat=0:=by omega
   rw[e0,cut_zero_drop];rcases(by omega:e<0∨0≤e) with hz | hz
   ·have e1:e.toNat=0:=by omega
    rw[e1,Nat.pow_zero,Nat.mul_one]at h;rw[h,Nat.mul_assoc,←Nat.pow_add]
    congr 2
    omega
   ·have e1:(-e).toNat=0:=by omega
    rw[e1,Nat.pow_zero,Nat.mul_one]at h;generalize N.log2=L at hl he ⊢;rw[←h,Nat.mul_assoc,←Nat.pow_add]
    congr 2
    omega
theorem read_word(neg:Bool)(rung:Nat)(h:rung<9218868437227405312) :
  Ieee.double.read (Ieee.double.word neg rung)=if rung<4503599627370496 then .number neg rung (-1074) else .number neg (4503599627370496+rung%4503599627370496) (-1074+(rung/4503599627370496-1:Nat)):=by
 have hb:Ieee.double.binade=4503599627370496:=rfl;have hs:Ieee.double.signWeight=9223372036854775808:=rfl;have hi:Ieee.double.infRung=9218868437227405312:=rfl;have hl:Ieee.double.leastPlace=-1074:=rfl;unfold Ieee.Format.read Ieee.Format.word;simp only[hb,hs,hi,hl];have h1:(if neg=true then 9223372036854775808+rung else rung)%9223372036854775808=rung:=by split<;>omega
 have h2:((if neg=true then 9223372036854775808+rung else rung)/9223372036854775808%2==1)=neg:=by
  cases neg
  ·have:rung/9223372036854775808=0:=by omega
   simp[this]
  ·have:(9223372036854775808+rung)/9223372036854775808=1:=by omega
   simp[this]
 rw[h1,h2];simp only[h,if_true]
theorem write_rep{s:Bool}{m:Nat}{e n:Int}(h:Stands s m e n)(hb:n.natAbs<9007199254740992):Rep (Ieee.double.write (.number s m e)) n:=by
 have hfb:Ieee.double.fractionBits=52:=rfl;have hbi:Ieee.double.binade=4503599627370496:=rfl;have hi:Ieee.double.infRung=9218868437227405312:=rfl;have hlp:Ieee.double.leastPlace=-1074:=rfl;have ha:=stands_abs h;have hs:=stands_sign h;unfold Ieee.Format.write Ieee.Format.nearest
 by_cases hN:n.natAbs=0
 ·have hm:m=0:=by
   rw[hN,Nat.zero_mul]at ha;rcases Nat.mul_eq_zero.1 ha with h0 | h0
   ·exact h0
   ·exact absurd h0 (Nat.ne_of_gt (Nat.two_pow_pos _))
  simp only[hm,if_true];have hn:n=0:=by omega
  subst hn;refine⟨s,0,-1074,?_,?_⟩
  ·rw[read_word _ _ (by decide),if_pos (by decide)]
  ·unfold Stands sg;rw[Int.zero_mul];split<;>simp
 ·obtain⟨hm,hlast,hkept⟩:=kept_is m e n.natAbs hN hb ha s
  have hl:n.natAbs.log2≤52:=by have:=(Nat.log2_lt (k:=53) hN).2 hb;omega
  simp only[hm,if_false,hfb,hbi,hi,hlp];have hlast':max (e+(m.log2:Int)-((52:Nat):Int)) (-1074)=(n.natAbs.log2:Int)-52:=hlast;rw[hlast',hkept];generalize hK:n.natAbs*2 ^ (52-n.natAbs.log2)=K;have hK1:4503599627370496≤K:=by
   rw[←hK];have h1:=Nat.mul_le_mul_right (2 ^ (52-n.natAbs.log2)) (Nat.log2_self_le hN);rw[←Nat.pow_add,show n.natAbs.log2+(52-n.natAbs.log2)=52 by omega]at h1
   exact h1
  have hK2:K<9007199254740992:=by
   rw[←hK];have h1:=(Nat.mul_lt_mul_right (Nat.two_pow_pos (52-n.natAbs.log2))).2 (Nat.lt_log2_self (n:=n.natAbs));rw[←Nat.pow_add,show n.natAbs.log2+1+(52-n.natAbs.log2)=53 by omega]at h1
   exact h1
  have ht:((n.natAbs.log2:Int)-52 - -1074).toNat=n.natAbs.log2+1022:=by omega
  rw[ht,Nat.min_eq_left (by omega)]
  refine⟨s,K,(n.natAbs.log2:Int)-52,?_,?_⟩
  ·rw[read_word _ _ (by omega),if_neg (by omega)]
   congr 1<;>omega
  ·unfold Stands
   have e0:((n.natAbs.log2:Int)-52).toNat=0:=by omega
   have e1:(-((n.natAbs.log2:Int)-52)).toNat=52-n.natAbs.log2:=by omega
   rw[e0,e1,Int.pow_zero,Int.mul_one,←hK]
   conv=>rhs;rw[hs]
   unfold sg;cases s
   ·simp
   ·simp[Int.neg_mul]
theorem rep_int{b:Nat}{n:Int}(h:Rep b n):((FloatKind.f64.decode b).toInt .zero)=some n:=by
 obtain⟨s,m,e,hr,hs⟩:=h;have ha:=stands_abs hs;have hg:=stands_sign hs;have hd:FloatKind.f64.decode b=.number s m e:=hr;rw[hd];unfold Ieee.Datum.toInt Ieee.Datum.integral;have hc:Toward.zero.cut s (m <<< e.toNat) (-e).toNat=n.natAbs:=by
  rw[Nat.shiftLeft_eq,ha]
  by_cases hN:n.natAbs=0
  ·rw[hN,Nat.zero_mul]
   unfold Toward.cut;simp
  ·exact cut_pow _ _ hN _
 simp only[hc];unfold Ieee.signed;rw[Nat.shiftLeft_zero]
 conv=>rhs;rw[hg]
 unfold sg;rfl
theorem toInt_rep{b:Nat}{n:Int}(h:Rep b n)(h0:-9223372036854775808≤n)(h1:n≤9223372036854775807):floatToIntVal .f64 b .i64=some n:=by
 unfold floatToIntVal;rw[rep_int h]
 simp only
 rw[if_pos ⟨h0,h1⟩]
theorem ofInt_rep(n:Int)(hb:n.natAbs<9007199254740992):Rep (floatOfInt .f64 n) n:=by
 have h:Stands (decide (n<0)) n.natAbs 0 n:=by
  unfold Stands sg;simp;split<;>omega
 exact write_rep h hb
theorem signed_sg(s:Bool)(m up:Nat):Ieee.signed s m up=sg s m*2 ^ up:=by
 unfold Ieee.signed sg;rw[Nat.shiftLeft_eq];split<;>simp[Int.neg_mul]
theorem shift_base{s:Bool}{m:Nat}{i x base:Int}(h:Stands s m i x)(hb:base≤i):sg s m*2 ^ (i-base).toNat*2 ^ base.toNat=x*2 ^ (-base).toNat:=by
 unfold Stands at h;rcases(by omega:base<0∨0≤base) with h0 | h0
 ·have e0:base.toNat=0:=by omega
  rw[e0,Int.pow_zero,Int.mul_one];rcases(by omega:i<0∨0≤i) with h1 | h1
  ·have e1:i.toNat=0:=by omega
   rw[e1,Int.pow_zero,Int.mul_one]at h;rw[h,Int.mul_assoc,←Int.pow_add]
   congr 2
   omega
  ·have e1:(-i).toNat=0:=by omega
   rw[e1,Int.pow_zero,Int.mul_one]at h;rw[show (i-base).toNat=i.toNat+(-base).toNat by omega,Int.pow_add,←Int.mul_assoc,h]
 ·have e0:(-base).toNat=0:=by omega
  have e1:(-i).toNat=0:=by omega
  rw[e1,Int.pow_zero,Int.mul_one]at h;rw[e0,Int.pow_zero,Int.mul_one,Int.mul_assoc,←Int.pow_add,show (i-base).toNat+base.toNat=i.toNat by omega,h]
theorem sg_of(t:Int)(b:Bool)(h:t≠0→b=decide (t<0)):sg b t.natAbs=t:=by
 unfold sg
 by_cases h0:t=0
 ·subst h0;simp
 ·rw[h h0]
  by_cases h1:t<0
  ·simp[h1];omega
  ·simp[h1];omega
theorem sum_stands{s t:Bool}{m n:Nat}{i j x y:Int}(hx:Stands s m i x)(hy:Stands t n j y) :
  ∃s' m' e',Ieee.Datum.sum (.number s m i) (.number t n j)=some (.number s' m' e')∧Stands s' m' e' (x+y):=by
 unfold Ieee.Datum.sum;refine⟨_,_,_,rfl,?_⟩;unfold Stands;rw[sg_of _ _ (fun h=>by rw[if_neg h]),signed_sg,signed_sg,Int.add_mul,shift_base hx (by omega),shift_base hy (by omega),Int.add_mul]
theorem product_stands{s t:Bool}{m n:Nat}{i j x y:Int}(hx:Stands s m i x)(hy:Stands t n j y) :
  ∃s' m' e',Ieee.Datum.product (.number s m i) (.number t n j)=some (.number s' m' e')∧Stands s' m' e' (x*y):=by
 unfold Ieee.Datum.product;refine⟨_,_,_,rfl,?_⟩;have hsg:sg (s ^^ t) (m*n)=sg s m*sg t n:=by
  unfold sg;cases s<;>cases t<;>simp[Int.neg_mul,Int.mul_neg]
 have h:sg s m*2 ^ i.toNat*(sg t n*2 ^ j.toNat)=x*2 ^ (-i).toNat*(y*2 ^ (-j).toNat):=by rw[show sg s m*2 ^ i.toNat=_ from hx,show sg t n*2 ^ j.toNat=_ from hy]
 have h2:sg s m*sg t n*2 ^ (i.toNat+j.toNat)=x*y*2 ^ ((-i).toNat+(-j).toNat):=by
  rw[Int.pow_add,Int.pow_add]
  calc sg s m*sg t n*(2 ^ i.toNat*2 ^ j.toNat)=sg s m*2 ^ i.toNat*(sg t n*2 ^ j.toNat):=by ac_rfl
   _=x*2 ^ (-i).toNat*(y*2 ^ (-j).toNat):=h
   _=x*y*(2 ^ (-i).toNat*2 ^ (-j).toNat):=by ac_rfl
 unfold Stands;rw[hsg];have e1:i.toNat+j.toNat=(i+j).toNat+(i.toNat+j.toNat-(i+j).toNat):=by omega
 have e2:(-i).toNat+(-j).toNat=(-(i+j)).toNat+(i.toNat+j.toNat-(i+j).toNat):=by omega
 rw[e1,e2,Int.pow_add,Int.pow_add,←Int.mul_assoc,←Int.mul_assoc]at h2;exact Int.eq_of_mul_eq_mul_right (Int.ne_of_gt (pow_pos' _)) h2
theorem opposite_stands{t:Bool}{n:Nat}{j y:Int}(hy:Stands t n j y):Stands (!t) n j (-y):=by
 unfold Stands at hy ⊢;have:sg (!t) n=-sg t n:=by unfold sg;cases t<;>simp
 rw[this,Int.neg_mul,Int.neg_mul,hy]
theorem add_rep{a b:Nat}{x y:Int}(hx:Rep a x)(hy:Rep b y)(hb:(x+y).natAbs<9007199254740992):∃r,floatBits .add .f64 a b=some r∧Rep r (x+y):=by
 obtain⟨s,m,i,hr,hs⟩:=hx;obtain⟨t,n,j,hq,ht⟩:=hy;obtain⟨s',m',e',hd,hst⟩:=sum_stands hs ht;refine⟨Ieee.double.write (.number s' m' e'),?_,write_rep hst hb⟩;show (((Ieee.double.read a).sum (Ieee.double.read b)).map Ieee.double.write)=_;rw[hr,hq,hd];rfl
theorem sub_rep{a b:Nat}{x y:Int}(hx:Rep a x)(hy:Rep b y)(hb:(x-y).natAbs<9007199254740992):∃r,floatBits .sub .f64 a b=some r∧Rep r (x-y):=by
 obtain⟨s,m,i,hr,hs⟩:=hx;obtain⟨t,n,j,hq,ht⟩:=hy;obtain⟨s',m',e',hd,hst⟩:=sum_stands hs (opposite_stands ht);refine⟨Ieee.double.write (.number s' m' e'),?_,write_rep (by rw[Int.sub_eq_add_neg];exact hst) hb⟩
 show (((Ieee.double.read a).sum (Ieee.double.read b).opposite).map Ieee.double.write)=_;rw[hr,hq];show ((Ieee.Datum.sum (.number s m i) (.number (!t) n j)).map Ieee.double.write)=_;rw[hd];rfl
theorem mul_rep{a b:Nat}{x y:Int}(hx:Rep a x)(hy:Rep b y)(hb:(x*y).natAbs<9007199254740992):∃r,floatBits .mul .f64 a b=some r∧Rep r (x*y):=by
 obtain⟨s,m,i,hr,hs⟩:=hx;obtain⟨t,n,j,hq,ht⟩:=hy;obtain⟨s',m',e',hd,hst⟩:=product_stands hs ht;refine⟨Ieee.double.write (.number s' m' e'),?_,write_rep hst hb⟩;show (((Ieee.double.read a).product (Ieee.double.read b)).map Ieee.double.write)=_;rw[hr,hq,hd];rfl
theorem rep_zero:Rep 0 0:=⟨false,0,-1074,by decide +kernel,by unfold Stands sg;rw[Int.zero_mul];simp only[Bool.false_eq_true,if_false];rw[Int.natCast_zero,Int.zero_mul]⟩
theorem rep_one:Rep 4607182418800017408 1:=by
 have h:floatOfInt .f64 1=4607182418800017408:=by decide +kernel
 rw[←h];exact ofInt_rep 1 (by decide)
theorem rep_neg_one:Rep 13830554455654793216 (-1):=by
 have h:floatOfInt .f64 (-1)=13830554455654793216:=by decide +kernel
 rw[←h];exact ofInt_rep (-1) (by decide)
theorem places{a b c d:Nat}{x y u v:Int}(hx:Rep a x)(hy:Rep b y)(hu:Rep c u)(hv:Rep d v)(h1:(x+u).natAbs<9007199254740992)(h2:(y+v).natAbs<9007199254740992) :
  ∃re im,cSumBits .add .f64 a b c d=some (re,im)∧Rep re (x+u)∧Rep im (y+v):=by
 obtain⟨re,e1,r1⟩:=add_rep hx hu h1;obtain⟨im,e2,r2⟩:=add_rep hy hv h2;exact⟨re,im,by unfold cSumBits;simp only[e1,e2,Option.bind_some],r1,r2⟩
end Go.Proofs.YthdgahpomhnidaaGreatF
namespace Go.Proofs.YthdgahpomhnidaaGreat.Mx
open Go
abbrev HP:=Array Go.Obj
structure Pl where
 bJ:Option Nat
 base:Option Addr
 len:Nat
 cap:Nat
 size:Nat
structure Gh where
 φ:Nat→Option Pl
 ro:Nat→Prop
def RdL{α:Type}(R:α→List Value→Prop):List α→List Value→Prop
 | [],vs=>vs=[]
 | x::l,vs=>∃u v,vs=u++v∧R x u∧RdL R l v
def C5{α:Type}(ro:Nat→Prop)(hp:HP)(R:α→List Value→Prop)(A:Option Addr)(l:List α):Prop :=
 l≠[]→∃b o cs t fz us rest,A=some ⟨b,o,none⟩∧ro b∧hp[b]?=some (.cells cs t fz)∧cs.toList.drop o=us++rest∧RdL R l us
def pr(ro:Nat→Prop)(hp:HP):cn→Value→Prop
 | .int k n,v=>v=.int k n
 | .bool b,v=>v=.bool b
 | .row l,v=>∃A c,v=.slice A (List.length l) c∧List.length l≤c∧C5 ro hp (fun(n:Int) vs=>vs=[.int .u8 n]) A l
def All2{α β:Type}(R:α→β→Prop):List α→List β→Prop
 | [],[]=>True
 | x::l,y::m=>R x y∧All2 R l m
 | _,_=>False
def iI(ro:Nat→Prop)(hp:HP):Dyn→Value→Prop
 | .non,v=>v=.nilIface
 | .mk t cs,v=>∃vs:List Value,v=.iface t (.agg vs.toArray)∧All2 (pr ro hp) cs vs
def Rd(ro:Nat→Prop)(hp:HP):(e:Ty)→e.T→List Value→Prop
 | .int k,n,vs=>vs=[.int k n]
 | .bool,b,vs=>vs=[.bool b]
 | .str,s,vs=>vs=[.string s]
 | .row e,l,vs=>∃A c,vs=[.slice A (List.length l) c]∧List.length l≤c∧C5 ro hp (Rd ro hp e) A l
 | .prod a b,x,vs=>∃u v,vs=u++v∧Rd ro hp a x.1 u∧Rd ro hp b x.2 v
 | .ifc,d,vs=>∃v,vs=[v]∧iI ro hp d v
def jC(g:Gh)(j:Nat)(u:Value):Prop:=∃P b,g.φ j=some P∧P.bJ=some b∧u=.pointer (some ⟨b,0,none⟩)
def VR(g:Gh)(hp:HP):CV→Value→Prop
 | .int k n,v=>v=.int k n
 | .bool b,v=>v=.bool b
 | .str s,v=>v=.string s
 | .fint n,v=>∃b,v=.float .f64 b∧YthdgahpomhnidaaGreatF.Rep b n
 | .cint x y,v=>∃a b,v=.complex .f64 a b∧YthdgahpomhnidaaGreatF.Rep a x∧YthdgahpomhnidaaGreatF.Rep b y
 | .nilp,v=>v=.pointer none
 | .nilf,v=>v=.nilFunc
 | .nili,v=>v=.nilIface
 | .nils,v=>v=.slice none 0 0
 | .ptr n off,v=>∃P b,g.φ n=some P∧P.bJ=some b∧v=.pointer (some ⟨b,off,none⟩)
 | .eptr n i off,v=>∃P b,g.φ n=some P∧P.bJ=some b∧i<P.len∧v=.pointer (some ⟨b,i*P.size+off,none⟩)
 | .aptr n off len stride i o,v=>∃P b,g.φ n=some P∧P.bJ=some b∧i<len∧v=.pointer (some ⟨b,off+i*stride+o,none⟩)
 | .own n,v=>∃P,g.φ n=some P∧v=.slice P.base P.len P.cap
 | .sub n lo hi,v=>∃P A c,g.φ n=some P∧lo≤hi∧hi≤P.len∧hi-lo≤c∧v=.slice A (hi-lo) c∧(lo<hi→∃b,P.bJ=some b∧A=some ⟨b,lo*P.size,none⟩)
 | .bsub n off len stride lo hi,v=>∃P b A c,g.φ n=some P∧P.bJ=some b∧lo≤hi∧hi≤len∧hi-lo≤c∧v=.slice A (hi-lo) c∧(lo<hi→A=some ⟨b,off+lo*stride,none⟩)
 | .row e l,v=>Rd g.ro hp (.row e) l [v]
 | .rptr e l i off,v=>∃b o cs t fz us rest,v=.pointer (some ⟨b,o+i*e.size+off,none⟩)∧g.ro b∧hp[b]?=some (.cells cs t fz)∧cs.toList.drop o=us++rest∧RdL (Rd g.ro hp e) l us∧i<l.length
 | .fn f js,v=>∃vs:List Value,v=.func (.func f) #[] vs.toArray∧All2 (jC g) js vs
 | .ifc t k ns,v=>v=.iface t (.agg (ns.map (Value.int k)).toArray)
 | .dyn d,v=>iI g.ro hp d v
 | .dead,_=>True
def bI(g:Gh)(hp:HP):AV→Value→Prop
 | .c x,v=>VR g hp x v
 | .agg xs,v=>∃vs:List Value,v=.agg vs.toArray∧All2 (VR g hp) xs vs
def aV(g:Gh)(hp:HP):SV→Value→Prop
 | .v a,v=>bI g hp a v
 | .tup xs,v=>∃vs:List Value,v=.tuple vs.toArray∧All2 (bI g hp) xs vs
def cr(g:Gh)(hp:HP)(P:Pl)(e:Ty)(l:List e.T):Prop :=
 P.len=l.length∧P.size=e.size∧P.len≤P.cap ∧
  match P.bJ with
  | none=>P.len=0∧P.cap=0∧P.base=none
  | some b=>P.base=some ⟨b,0,none⟩∧∃vs t us rest,hp[b]?=some (.cells vs t (0,0))∧vs.toList=us++rest∧RdL (Rd g.ro hp e) l us∧P.cap*P.size≤vs.size
def fk(g:Gh)(hp:HP)(P:Pl):Obj→Prop
 | .box cs=>∃b vs t,P.bJ=some b∧hp[b]?=some (.cells vs t (0,0))∧All2 (VR g hp) cs vs.toList
 | .arr e l=>cr g hp P e l
 | .bF e l=>cr g hp P e l
def Obj.dA:Obj→Bool
 | .bF _ _=>true
 | _=>false
structure Mem (mt:Nat→Prop) (g:Gh) (H:Nat→Option Obj) (hp:HP):Prop where
 obj:∀n o,H n=some o→∃P,g.φ n=some P∧fk g hp P o
 own:∀n o P b,H n=some o→o.dA=false→g.φ n=some P→P.bJ=some b→mt b∧¬g.ro b
 bF:∀n o P b,H n=some o→o.dA=true→g.φ n=some P→P.bJ=some b→g.ro b
 sep:∀n m o o' P Q b,n≠m→H n=some o→H m=some o'→g.φ n=some P→g.φ m=some Q→P.bJ=some b→Q.bJ≠some b
 ro:∀b,g.ro b→b<hp.size
structure cA (g:Gh) (hp:HP) (g':Gh) (hp':HP):Prop where
 ro:∀b,g.ro b→g'.ro b
 hp:∀b,g.ro b→hp'[b]?=hp[b]?
 jm:∀n P,g.φ n=some P→g'.φ n=some P
theorem cA.refl(g:Gh)(hp:HP):cA g hp g hp:=⟨fun _ h=>h,fun _ _=>rfl,fun _ _ h=>h⟩
theorem RdL.mono{α:Type}{R R':α→List Value→Prop}(h:∀x vs,R x vs→R' x vs):∀(l:List α) (vs:List Value),RdL R l vs→RdL R' l vs
 | [],_,hv=>hv
 | _::l,_,⟨u,v,e,hx,hl⟩=>⟨u,v,e,h _ _ hx,RdL.mono h l v hl⟩
theorem All2.mono{α β:Type}{R R':α→β→Prop}(h:∀x y,R x y→R' x y):∀(l:List α) (m:List β),All2 R l m→All2 R' l m
 | [],[],_=>trivial
 | _::l,_::m,⟨hx,hl⟩=>⟨h _ _ hx,All2.mono h l m hl⟩
 | [],_::_,h=>h.elim
 | _::_,[],h=>h.elim
theorem pr.aL{ro dr:Nat→Prop}{hp hp':HP}(h1:∀b,ro b→dr b)(h2:∀b,ro b→hp'[b]?=hp[b]?):∀(c:cn) (v:Value),pr ro hp c v→pr dr hp' c v
 | .int _ _,_,h=>h
 | .bool _,_,h=>h
 | .row l,_,⟨A,c,hv,hc,hr⟩=>⟨A,c,hv,hc,fun hl=>by
   obtain⟨b,o,cs,t,fz,us,rest,hA,hb,hh,hd,hR⟩:=hr hl;exact⟨b,o,cs,t,fz,us,rest,hA,h1 b hb,(h2 b hb).trans hh,hd,hR⟩⟩
theorem iI.aL{ro dr:Nat→Prop}{hp hp':HP}(h1:∀b,ro b→dr b)(h2:∀b,ro b→hp'[b]?=hp[b]?):∀(d:Dyn) (v:Value),iI ro hp d v→iI dr hp' d v
 | .non,_,h=>h
 | .mk _ _,_,⟨vs,hv,h⟩=>⟨vs,hv,All2.mono (pr.aL h1 h2) _ _ h⟩
theorem Rd.aL{ro dr:Nat→Prop}{hp hp':HP}(h1:∀b,ro b→dr b)(h2:∀b,ro b→hp'[b]?=hp[b]?):∀(e:Ty) (x:e.T) (vs:List Value),Rd ro hp e x vs→Rd dr hp' e x vs
 | .int _,_,_,h=>h
 | .bool,_,_,h=>h
 | .str,_,_,h=>h
 | .row e,l,vs,⟨A,c,hv,hc,hr⟩=>⟨A,c,hv,hc,fun hl=>by
   obtain⟨b,o,cs,t,fz,us,rest,hA,hb,hh,hd,hR⟩:=hr hl;exact⟨b,o,cs,t,fz,us,rest,hA,h1 b hb,(h2 b hb).trans hh,hd,RdL.mono (fun x vs=>Rd.aL h1 h2 e x vs) l us hR⟩⟩
 | .prod a b,x,vs,⟨u,v,hv,hu,hw⟩=>⟨u,v,hv,Rd.aL h1 h2 a x.1 u hu,Rd.aL h1 h2 b x.2 v hw⟩
 | .ifc,d,vs,⟨v,hv,hd⟩=>⟨v,hv,iI.aL h1 h2 d v hd⟩
theorem jC.aL{g g':Gh}(h:∀n P,g.φ n=some P→g'.φ n=some P)(j:Nat)(u:Value):jC g j u→jC g' j u:=fun⟨P,b,hp,hb,hu⟩=>⟨P,b,h j P hp,hb,hu⟩
theorem VR.aL{g g':Gh}{hp hp':HP}(s:cA g hp g' hp'):∀(x:CV) (v:Value),VR g hp x v→VR g' hp' x v
 | .int _ _,_,h=>h
 | .bool _,_,h=>h
 | .str _,_,h=>h
 | .fint _,_,h=>h
 | .cint _ _,_,h=>h
 | .nilp,_,h=>h
 | .nilf,_,h=>h
 | .nili,_,h=>h
 | .nils,_,h=>h
 | .ptr _ _,_,⟨P,b,h,r⟩=>⟨P,b,s.jm _ _ h,r⟩
 | .eptr _ _ _,_,⟨P,b,h,r⟩=>⟨P,b,s.jm _ _ h,r⟩
 | .aptr _ _ _ _ _ _,_,⟨P,b,h,r⟩=>⟨P,b,s.jm _ _ h,r⟩
 | .own _,_,⟨P,h,r⟩=>⟨P,s.jm _ _ h,r⟩
 | .sub _ _ _,_,⟨P,A,c,h,r⟩=>⟨P,A,c,s.jm _ _ h,r⟩
 | .bsub _ _ _ _ _ _,_,⟨P,b,A,c,h,r⟩=>⟨P,b,A,c,s.jm _ _ h,r⟩
 | .row e l,v,h=>Rd.aL s.ro s.hp (.row e) l [v] h
 | .rptr e l _ _,_,⟨b,o,cs,t,fz,us,rest,hv,hb,hh,hd,hR,hi⟩=>⟨b,o,cs,t,fz,us,rest,hv,s.ro b hb,(s.hp b hb).trans hh,hd,RdL.mono (fun x vs=>Rd.aL s.ro s.hp e x vs) l us hR,hi⟩
 | .fn _ _,_,⟨vs,hv,h⟩=>⟨vs,hv,All2.mono (jC.aL s.jm) _ _ h⟩
 | .ifc _ _ _,_,h=>h
 | .dyn d,v,h=>iI.aL s.ro s.hp d v h
 | .dead,_,_=>trivial
theorem bI.aL{g g':Gh}{hp hp':HP}(s:cA g hp g' hp'):∀(x:AV) (v:Value),bI g hp x v→bI g' hp' x v
 | .c x,v,h=>VR.aL s x v h
 | .agg xs,_,⟨vs,hv,h⟩=>⟨vs,hv,All2.mono (VR.aL s) _ _ h⟩
theorem aV.aL{g g':Gh}{hp hp':HP}(s:cA g hp g' hp'):∀(x:SV) (v:Value),aV g hp x v→aV g' hp' x v
 | .v x,v,h=>bI.aL s x v h
 | .tup xs,_,⟨vs,hv,h⟩=>⟨vs,hv,All2.mono (bI.aL s) _ _ h⟩
theorem fk.aL{g g':Gh}{hp hp':HP}(s:cA g hp g' hp'){P:Pl}(hb:∀b,P.bJ=some b→hp'[b]?=hp[b]?):∀(o:Obj),fk g hp P o→fk g' hp' P o
 | .box cs,⟨b,vs,t,h1,h2,h3⟩=>⟨b,vs,t,h1,(hb b h1).trans h2,All2.mono (VR.aL s) _ _ h3⟩
 | .arr e l,h=>by
  obtain⟨h1,h2,h3,h4⟩:=h;refine⟨h1,h2,h3,?_⟩;cases hB:P.bJ with
  | none=>rw[hB]at h4;exact h4
  | some b =>
   rw[hB]at h4;obtain⟨h5,vs,t,us,rest,h6,h7,h8,h9⟩:=h4;exact⟨h5,vs,t,us,rest,(hb b hB).trans h6,h7,RdL.mono (fun x vs=>Rd.aL s.ro s.hp e x vs) l us h8,h9⟩
 | .bF e l,h=>by
  obtain⟨h1,h2,h3,h4⟩:=h;refine⟨h1,h2,h3,?_⟩;cases hB:P.bJ with
  | none=>rw[hB]at h4;exact h4
  | some b =>
   rw[hB]at h4;obtain⟨h5,vs,t,us,rest,h6,h7,h8,h9⟩:=h4;exact⟨h5,vs,t,us,rest,(hb b hB).trans h6,h7,RdL.mono (fun x vs=>Rd.aL s.ro s.hp e x vs) l us h8,h9⟩
theorem Ty.size_pos:∀e:Ty,0<e.size
 | .int _=>Nat.one_pos
 | .bool=>Nat.one_pos
 | .str=>Nat.one_pos
 | .row _=>Nat.one_pos
 | .prod a b=>by have:=Ty.size_pos a;simp only[Ty.size];omega
 | .ifc=>Nat.one_pos
theorem Rd.length{ro:Nat→Prop}{hp:HP}:∀(e:Ty) (x:e.T) (vs:List Value),Rd ro hp e x vs→vs.length=e.size
 | .int _,_,_,h=>by rw[show _=_ from h];rfl
 | .bool,_,_,h=>by rw[show _=_ from h];rfl
 | .str,_,_,h=>by rw[show _=_ from h];rfl
 | .row e,l,vs,⟨A,c,hv,_⟩=>by rw[hv];rfl
 | .ifc,d,vs,⟨v,hv,_⟩=>by rw[hv];rfl
 | .prod a b,x,vs,⟨u,v,hv,hu,hw⟩=>by rw[hv,List.length_append,Rd.length a _ _ hu,Rd.length b _ _ hw];rfl
theorem RdL.length{ro:Nat→Prop}{hp:HP}{e:Ty}:∀(l:List e.T) (vs:List Value),RdL (Rd ro hp e) l vs→vs.length=l.length*e.size
 | [],vs,h=>by rw[show vs=[] from h];simp
 | x::l,vs,⟨u,v,hv,hx,hl⟩=>by rw[hv,List.length_append,Rd.length e _ _ hx,RdL.length l v hl,List.length_cons,Nat.add_mul,Nat.one_mul,Nat.add_comm]
theorem RdL.append{α:Type}{R:α→List Value→Prop}:∀(l m:List α) (u v:List Value),RdL R l u→RdL R m v→RdL R (l++m) (u++v)
 | [],m,u,v,hu,hv=>by rw[show u=[] from hu];exact hv
 | x::l,m,u,v,⟨a,b,e,hx,hl⟩,hv=>⟨a,b++v,by rw[e,List.append_assoc],hx,RdL.append l m b v hl hv⟩
theorem RdL.get{ro:Nat→Prop}{hp:HP}{e:Ty}:∀(l:List e.T) (vs:List Value) (i:Nat) (d:e.T),RdL (Rd ro hp e) l vs→i<l.length→∃u,(vs.drop (i*e.size)).take e.size=u∧Rd ro hp e (l.getD i d) u
 | [],_,_,_,_,hi=>by simp at hi
 | x::l,vs,0,d,⟨u,v,hv,hx,hl⟩,hi=>⟨u,by rw[hv,Nat.zero_mul,List.drop_zero,List.take_left' (Rd.length e _ _ hx)],hx⟩
 | x::l,vs,i+1,d,⟨u,v,hv,hx,hl⟩,hi=>by
  obtain⟨u',h1,h2⟩:=RdL.get l v i d hl (by simpa using hi)
  refine⟨u',?_,by simpa using h2⟩
  rw[hv,Nat.add_mul,Nat.one_mul,Nat.add_comm (i*e.size),←List.drop_drop,List.drop_left' (Rd.length e _ _ hx)];exact h1
theorem RdL.set{ro:Nat→Prop}{hp:HP}{e:Ty}:∀(l:List e.T) (vs:List Value) (i:Nat) (x:e.T) (u:List Value),RdL (Rd ro hp e) l vs→i<l.length→Rd ro hp e x u →
  RdL (Rd ro hp e) (l.set i x) (vs.take (i*e.size)++u++vs.drop (i*e.size+e.size))
 | [],_,_,_,_,_,hi,_=>by simp at hi
 | y::l,vs,0,x,u,⟨a,b,hv,hy,hl⟩,hi,hx=>by
  refine⟨u,b,?_,hx,hl⟩;rw[hv,Nat.zero_mul,List.take_zero,Nat.zero_add,List.drop_left' (Rd.length e _ _ hy),List.nil_append]
 | y::l,vs,i+1,x,u,⟨a,b,hv,hy,hl⟩,hi,hx=>by
  have ih:=RdL.set l b i x u hl (by simpa using hi) hx
  refine⟨a,_,?_,hy,ih⟩;have ha:=Rd.length e _ _ hy;rw[hv,Nat.add_mul,Nat.one_mul,Nat.add_comm (i*e.size)];rw[List.take_append,List.drop_append,ha];rw[List.take_of_length_le (by omega),List.drop_of_length_le (by omega)]
  rw[show e.size+i*e.size-e.size=i*e.size by omega,show e.size+i*e.size+e.size-e.size=i*e.size+e.size by omega]
  simp[Nat.add_comm (i*e.size) e.size]
theorem RdL.take_drop{ro:Nat→Prop}{hp:HP}{e:Ty}:∀(l:List e.T) (vs:List Value) (a b:Nat),RdL (Rd ro hp e) l vs→b≤l.length→RdL (Rd ro hp e) ((l.take b).drop a) ((vs.take (b*e.size)).drop (a*e.size))
 | [],vs,a,b,h,hb=>by
  rw[show vs=[] from h];simp[RdL]
 | x::l,vs,a,0,h,hb=>by simp[RdL]
 | x::l,vs,0,b+1,⟨u,v,hv,hx,hl⟩,hb=>by
  have ih:=RdL.take_drop l v 0 b hl (by simpa using hb)
  have hu:=Rd.length e _ _ hx;refine⟨u,_,?_,hx,ih⟩;have h1:(u++v).take ((b+1)*e.size)=u++v.take (b*e.size):=by
   rw[List.take_append,hu,List.take_of_length_le (by rw[hu,Nat.add_mul];omega),Nat.add_mul,Nat.one_mul,Nat.add_sub_cancel]
  rw[hv,h1,Nat.zero_mul,List.drop_zero,List.drop_zero]
 | x::l,vs,a+1,b+1,⟨u,v,hv,hx,hl⟩,hb=>by
  have ih:=RdL.take_drop l v a b hl (by simpa using hb)
  have hu:=Rd.length e _ _ hx;rw[List.take_succ_cons,List.drop_succ_cons];have h1:(u++v).take ((b+1)*e.size)=u++v.take (b*e.size):=by
   rw[List.take_append,hu,List.take_of_length_le (by rw[hu,Nat.add_mul];omega),Nat.add_mul,Nat.one_mul,Nat.add_sub_cancel]
  rw[hv,h1,Nat.add_mul,Nat.one_mul,Nat.add_comm (a*e.size),←List.drop_drop,List.drop_left' hu];exact ih
end Go.Proofs.YthdgahpomhnidaaGreat.Mx
namespace Go.Proofs.YthdgahpomhnidaaGreat.Mx
open Go
abbrev HF:=Nat→Option Obj
def eQ(H:HF)(n:Nat)(o:Option Obj):HF:=fun m=>if m=n then o else H m
theorem aS(H:HF)(n:Nat)(o:Option Obj):eQ H n o n=o:=if_pos rfl
theorem aR(H:HF){n m:Nat}(o:Option Obj)(h:m≠n):eQ H n o m=H m:=if_neg h
theorem fZ{k n:Nat}(h:k≠n):Nat.beq k n=false:=by
 cases hb:Nat.beq k n with
 | false=>rfl
 | true=>exact absurd (Nat.eq_of_beq_eq_true hb) h
theorem beq_eq{k n:Nat}(h:Nat.beq k n=true):k=n:=Nat.eq_of_beq_eq_true h
theorem bT(k:Nat):Nat.beq k k=true:=Nat.beq_refl k
theorem hC(k:Nat)(o:Obj)(h:aK)(n:Nat):hget ((k,o)::h) n=if k=n then some o else hget h n:=by
 by_cases e:k=n
 ·subst e;simp only[hget,bT,if_true]
 ·simp only[hget,fZ e,if_neg e]
theorem fM(k:Nat)(o:Obj)(h:aK):hget ((k,o)::h)=eQ (hget h) k (some o):=by
 funext n
 rw[hC,eQ]
 by_cases e:k=n
 ·rw[if_pos e,if_pos e.symm]
 ·rw[if_neg e,if_neg (Ne.symm e)]
universe u
theorem vx{R:Type u}:∀(h:aK) (n:Nat) (o:Obj) (K:aK→R),∃h',hsetK h n o K=K h'∧(hget h n≠none→hget h'=eQ (hget h) n (some o))
 | [],n,o,K=>⟨[],rfl,fun h=>absurd rfl h⟩
 | (k,a)::h,n,o,K=>by
  by_cases e:k=n
  ·subst e
   refine⟨(k,o)::h,by simp only[hsetK,bT],fun _=>?_⟩
   rw[fM,fM]
   funext m
   by_cases hm:m=k
   ·subst hm;rw[aS,aS]
   ·rw[aR _ _ hm,aR _ _ hm,aR _ _ hm]
  ·obtain⟨h',h1,h2⟩:=vx h n o fun h'=>K ((k,a)::h')
   refine⟨(k,a)::h',by simp only[hsetK,fZ e];exact h1,fun hn=>?_⟩
   rw[hC,if_neg e]at hn;rw[fM,fM,h2 hn]
   funext m
   by_cases hm:m=n
   ·subst hm;rw[aS,aR _ _ (Ne.symm e),aS]
   ·by_cases hk:m=k
    ·subst hk;rw[aS,aR _ _ hm,aS]
    ·rw[aR _ _ hk,aR _ _ hm,aR _ _ hm,aR _ _ hk]
theorem pf{R:Type u}:∀(h:aK) (n:Nat) (K:aK→R),∃h',hdelK h n K=K h'∧hget h'=eQ (hget h) n none
 | [],n,K=>⟨[],rfl,by funext m;simp only[hget,eQ];split<;>rfl⟩
 | (k,a)::h,n,K=>by
  by_cases e:k=n
  ·subst e
   obtain⟨h',h1,h2⟩:=pf h k K;refine⟨h',by simp only[hdelK,bT];exact h1,?_⟩
   rw[h2,fM]
   funext m
   by_cases hm:m=k
   ·subst hm;rw[aS,aS]
   ·rw[aR _ _ hm,aR _ _ hm,aR _ _ hm]
  ·obtain⟨h',h1,h2⟩:=pf h n fun h'=>K ((k,a)::h')
   refine⟨(k,a)::h',by simp only[hdelK,fZ e];exact h1,?_⟩
   rw[fM,fM,h2]
   funext m
   by_cases hm:m=n
   ·subst hm;rw[aS,aR _ _ (Ne.symm e),aS]
   ·by_cases hk:m=k
    ·subst hk;rw[aS,aR _ _ hm,aS]
    ·rw[aR _ _ hk,aR _ _ hm,aR _ _ hm,aR _ _ hk]
def MA.eval{α:Type}:MA α→Nat→HF→FP→Option (α×HF×FP)
 | .pure a,_,H,fp=>some (a,H,fp)
 | .fail,_,_,_=>none
 | .get n k,b,H,fp=>match H n with
  | some o=>(k o).eval b H ⟨n::fp.reads,fp.writes⟩
  | none=>none
 | .set n o k,b,H,fp=>match H n with
  | some _=>k.eval b (eQ H n (some o)) ⟨fp.reads,n::fp.writes⟩
  | none=>none
 | .del n k,b,H,fp=>match H n with
  | some _=>k.eval b (eQ H n none) ⟨fp.reads,n::fp.writes⟩
  | none=>none
 | .new s o k,b,H,fp=>match H (b+s) with
  | some _=>none
  | none=>if s<keys then k.eval b (eQ H (b+s) (some o)) ⟨fp.reads,(b+s)::fp.writes⟩ else none
 | .base k,b,H,fp=>(k b).eval b H fp
 | .cond c t e,b,H,fp=>if c=true then t.eval b H fp else e.eval b H fp
 | .bindO x k,b,H,fp=>match x with
  | some y=>(k y).eval b H fp
  | none=>none
 | .sum x k l,b,H,fp=>match x with
  | .inl y=>(k y).eval b H fp
  | .inr y=>(l y).eval b H fp
theorem MA.eval_bind{α β:Type}(f:α→MA β):∀(m:MA α) (b:Nat) (H:HF) (fp:FP),(m.bind f).eval b H fp=match m.eval b H fp with
  | some (a,H',fp')=>(f a).eval b H' fp'
  | none=>none:=by
 intro m
 induction m with
 | pure a=>intro b H fp;rfl
 | fail=>intro b H fp;rfl
 | get n k ih=>intro b H fp;simp only[MA.bind,MA.eval];cases H n<;>simp only[ih]
 | set n o k ih=>intro b H fp;simp only[MA.bind,MA.eval];cases H n<;>simp only[ih]
 | del n k ih=>intro b H fp;simp only[MA.bind,MA.eval];cases H n<;>simp only[ih]
 | new s o k ih =>
  intro b H fp;simp only[MA.bind,MA.eval];cases H (b+s) with
  | some _=>rfl
  | none=>by_cases hs:s<keys<;>simp only[hs,if_true,if_false,ih]
 | base k ih=>intro b H fp;simp only[MA.bind,MA.eval];exact ih b b H fp
 | cond c t e ih1 ih2=>intro b H fp;simp only[MA.bind,MA.eval];by_cases h:c=true<;>simp only[h,if_true,if_false,ih1,ih2,Bool.false_eq_true]
 | bindO x k ih =>
  intro b H fp;cases x with
  | none=>rfl
  | some y=>exact ih y b H fp
 | sum x k l ih1 ih2 =>
  intro b H fp;cases x with
  | inl y=>exact ih1 y b H fp
  | inr y=>exact ih2 y b H fp
theorem MA.Bg{α A:Type}:∀(m:MA α) (b:Nat) (h:aK) (fp:FP) (K:α→aK→FP→Option A) (r:A),m.run b h fp K=some r →
  ∃a h' fp',m.eval b (hget h) fp=some (a,hget h',fp')∧K a h' fp'=some r:=by
 intro m
 induction m with
 | pure a=>intro b h fp K r hr;exact⟨a,h,fp,rfl,hr⟩
 | fail=>intro b h fp K r hr;cases hr
 | get n k ih =>
  intro b h fp K r hr;simp only[MA.run]at hr;simp only[MA.eval];cases ho:hget h n with
  | none=>rw[ho]at hr;cases hr
  | some o=>rw[ho]at hr;exact ih o b h _ K r hr
 | set n o k ih =>
  intro b h fp K r hr;simp only[MA.run]at hr;simp only[MA.eval];cases ho:hget h n with
  | none=>rw[ho]at hr;cases hr
  | some o' =>
   rw[ho]at hr;obtain⟨h',h1,h2⟩:=vx h n o fun h'=>k.run b h' ⟨fp.reads,n::fp.writes⟩ K
   simp only at hr
   rw[h1]at hr;rw[←h2 (by rw[ho];simp)]
   exact ih b h' _ K r hr
 | del n k ih =>
  intro b h fp K r hr;simp only[MA.run]at hr;simp only[MA.eval];cases ho:hget h n with
  | none=>rw[ho]at hr;cases hr
  | some o' =>
   rw[ho]at hr;obtain⟨h',h1,h2⟩:=pf h n fun h'=>k.run b h' ⟨fp.reads,n::fp.writes⟩ K
   simp only at hr
   rw[h1]at hr;rw[←h2];exact ih b h' _ K r hr
 | new s o k ih =>
  intro b h fp K r hr;simp only[MA.run]at hr;simp only[MA.eval];cases ho:hget h (b+s) with
  | some o'=>rw[ho]at hr;cases hr
  | none =>
   rw[ho]at hr
   simp only at hr
   by_cases hs:s<keys
   ·have:Nat.blt s keys=true:=by unfold Nat.blt;exact Nat.ble_eq_true_of_le hs
    rw[this]at hr;simp only[hs,if_true];rw[←fM];exact ih b _ _ K r hr
   ·have:Nat.blt s keys=false:=by
     cases hb:Nat.blt s keys with
     | false=>rfl
     | true=>exact absurd (Nat.le_of_ble_eq_true hb) hs
    rw[this]at hr;cases hr
 | base k ih=>intro b h fp K r hr;exact ih b b h fp K r hr
 | cond c t e ih1 ih2 =>
  intro b h fp K r hr;cases c with
  | true=>exact ih1 b h fp K r hr
  | false=>simp only[MA.eval,Bool.false_eq_true,if_false];exact ih2 b h fp K r hr
 | bindO x k ih =>
  intro b h fp K r hr;cases x with
  | none=>cases hr
  | some y=>exact ih y b h fp K r hr
 | sum x k l ih1 ih2 =>
  intro b h fp K r hr;cases x with
  | inl y=>exact ih1 y b h fp K r hr
  | inr y=>exact ih2 y b h fp K r hr
theorem MA.yB{α:Type}:∀(m:MA α) (b:Nat) (H:HF) (fp:FP) (a:α) (H':HF) (fp':FP),m.eval b H fp=some (a,H',fp') →
  ∃R W,fp'=⟨R++fp.reads,W++fp.writes⟩∧(∀n,n∉W→H' n=H n) ∧
   ∀(H2:HF) (fp2:FP),(∀n,n∈R∨n∈W→H2 n=H n)→m.eval b H2 fp2=some (a,(fun n=>if n∈W then H' n else H2 n),⟨R++fp2.reads,W++fp2.writes⟩):=by
 intro m
 induction m with
 | pure a =>
  intro b H fp a' H' fp' h;simp only[MA.eval,Option.some.injEq,Prod.mk.injEq]at h;obtain⟨rfl,rfl,rfl⟩:=h;exact⟨[],[],rfl,fun _ _=>rfl,fun H2 fp2 _=>by simp[MA.eval]⟩
 | fail=>intro b H fp a' H' fp' h;cases h
 | get n k ih =>
  intro b H fp a' H' fp' h;simp only[MA.eval]at h;cases ho:H n with
  | none=>rw[ho]at h;cases h
  | some o =>
   rw[ho]at h;obtain⟨R,W,e,hW,hl⟩:=ih o b H _ a' H' fp' h;refine⟨R++[n],W,by rw[e];simp,hW,fun H2 fp2 h2=>?_⟩
   have hn:H2 n=some o:=by rw[h2 n (.inl (by simp)),ho]
   simp only[MA.eval,hn];rw[hl H2 _ fun m hm=>h2 m (hm.imp (fun x=>by simp[x]) id)]
   simp
 | set n o k ih =>
  intro b H fp a' H' fp' h;simp only[MA.eval]at h;cases ho:H n with
  | none=>rw[ho]at h;cases h
  | some o1 =>
   rw[ho]at h;obtain⟨R,W,e,hW,hl⟩:=ih b _ _ a' H' fp' h;refine⟨R,W++[n],by rw[e];simp,fun m hm=>?_,fun H2 fp2 h2=>?_⟩
   ·simp only[List.mem_append,List.mem_singleton,not_or]at hm
    rw[hW m hm.1,aR _ _ hm.2]
   ·have hn:H2 n=some o1:=by rw[h2 n (.inr (by simp)),ho]
    simp only[MA.eval,hn];rw[hl (eQ H2 n (some o)) _ ?_]
    ·simp only[List.append_assoc,List.singleton_append,Option.some.injEq,Prod.mk.injEq,true_and,and_true]
     funext m
     by_cases hm:m∈W
     ·simp[hm]
     ·by_cases hmn:m=n
      ·subst hmn;simp[hm,aS,hW m hm]
      ·simp[hm,hmn,aR]
    ·intro m hm
     by_cases hmn:m=n
     ·subst hmn;rw[aS,aS]
     ·rw[aR _ _ hmn,aR _ _ hmn];exact h2 m (hm.imp id fun x=>by simp[x])
 | del n k ih =>
  intro b H fp a' H' fp' h;simp only[MA.eval]at h;cases ho:H n with
  | none=>rw[ho]at h;cases h
  | some o1 =>
   rw[ho]at h;obtain⟨R,W,e,hW,hl⟩:=ih b _ _ a' H' fp' h;refine⟨R,W++[n],by rw[e];simp,fun m hm=>?_,fun H2 fp2 h2=>?_⟩
   ·simp only[List.mem_append,List.mem_singleton,not_or]at hm
    rw[hW m hm.1,aR _ _ hm.2]
   ·have hn:H2 n=some o1:=by rw[h2 n (.inr (by simp)),ho]
    simp only[MA.eval,hn];rw[hl (eQ H2 n none) _ ?_]
    ·simp only[List.append_assoc,List.singleton_append,Option.some.injEq,Prod.mk.injEq,true_and,and_true]
     funext m
     by_cases hm:m∈W
     ·simp[hm]
     ·by_cases hmn:m=n
      ·subst hmn;simp[hm,aS,hW m hm]
      ·simp[hm,hmn,aR]
    ·intro m hm
     by_cases hmn:m=n
     ·subst hmn;rw[aS,aS]
     ·rw[aR _ _ hmn,aR _ _ hmn];exact h2 m (hm.imp id fun x=>by simp[x])
 | new s o k ih =>
  intro b H fp a' H' fp' h;simp only[MA.eval]at h;cases ho:H (b+s) with
  | some _=>rw[ho]at h;cases h
  | none =>
   rw[ho]at h
   simp only at h
   by_cases hs:s<keys
   ·simp only[hs,if_true]at h
    obtain⟨R,W,e,hW,hl⟩:=ih b _ _ a' H' fp' h;refine⟨R,W++[b+s],by rw[e];simp,fun m hm=>?_,fun H2 fp2 h2=>?_⟩
    ·simp only[List.mem_append,List.mem_singleton,not_or]at hm
     rw[hW m hm.1,aR _ _ hm.2]
    ·have hn:H2 (b+s)=none:=by rw[h2 (b+s) (.inr (by simp)),ho]
     simp only[MA.eval,hn,hs,if_true];rw[hl (eQ H2 (b+s) (some o)) _ ?_]
     ·simp only[List.append_assoc,List.singleton_append,Option.some.injEq,Prod.mk.injEq,true_and,and_true]
      funext m
      by_cases hm:m∈W
      ·simp[hm]
      ·by_cases hmn:m=b+s
       ·subst hmn;simp[hm,aS,hW _ hm]
       ·simp[hm,hmn,aR]
     ·intro m hm
      by_cases hmn:m=b+s
      ·subst hmn;rw[aS,aS]
      ·rw[aR _ _ hmn,aR _ _ hmn];exact h2 m (hm.imp id fun x=>by simp[x])
   ·simp only[hs,if_false]at h
    cases h
 | base k ih=>intro b H fp a' H' fp' h;exact ih b b H fp a' H' fp' h
 | cond c t e ih1 ih2 =>
  intro b H fp a' H' fp' h;cases c with
  | true=>exact ih1 b H fp a' H' fp' h
  | false =>
   simp only[MA.eval,Bool.false_eq_true,if_false]at h;obtain⟨R,W,e,hW,hl⟩:=ih2 b H fp a' H' fp' h;exact⟨R,W,e,hW,fun H2 fp2 h2=>by simp only[MA.eval,Bool.false_eq_true,if_false];exact hl H2 fp2 h2⟩
 | bindO x k ih =>
  intro b H fp a' H' fp' h;cases x with
  | none=>cases h
  | some y=>exact ih y b H fp a' H' fp' h
 | sum x k l ih1 ih2 =>
  intro b H fp a' H' fp' h;cases x with
  | inl y=>exact ih1 y b H fp a' H' fp' h
  | inr y=>exact ih2 y b H fp a' H' fp' h
structure Ext (mt:Nat→Prop) (g:Gh) (w:World) (g':Gh) (w':World):Prop where
 os:w'.os=w.os
 tape:w'.tape=w.tape
 output:w'.output=w.output
 size:w.heap.size≤w'.heap.size
 au:∀b,b<w.heap.size→(¬mt b∨g.ro b)→w'.heap[b]?=w.heap[b]?
 ro:∀b,g.ro b→g'.ro b
 dr:∀b,g'.ro b→g.ro b∨mt b
 jm:∀n P,g.φ n=some P→g'.φ n=some P
theorem Ext.refl(mt:Nat→Prop)(g:Gh)(w:World):Ext mt g w g w:=⟨rfl,rfl,rfl,Nat.le_refl _,fun _ _ _=>rfl,fun _ h=>h,fun _ h=>.inl h,fun _ _ h=>h⟩
theorem Ext.trans{mt:Nat→Prop}{g g' g2:Gh}{w w' w2:World}(a:Ext mt g w g' w')(b:Ext mt g' w' g2 w2):Ext mt g w g2 w2 :=
  ⟨b.os.trans a.os,b.tape.trans a.tape,b.output.trans a.output,Nat.le_trans a.size b.size,
   fun c hc hk=>(b.au c (Nat.lt_of_lt_of_le hc a.size) (hk.imp id (a.ro c))).trans (a.au c hc hk),
   fun c h=>b.ro c (a.ro c h),fun c h=>(b.dr c h).elim (a.dr c) .inr,fun n P h=>b.jm n P (a.jm n P h)⟩
theorem Ext.aL{mt:Nat→Prop}{g g':Gh}{w w':World}(a:Ext mt g w g' w')(h:∀b,g.ro b→b<w.heap.size):cA g w.heap g' w'.heap :=
 ⟨a.ro,fun b hb=>a.au b (h b hb) (.inr hb),a.jm⟩
theorem fT{α:Type}{a:Array α}{b:Nat}{x:α}(h:a[b]?=some x):b<a.size:=by
 rcases Nat.lt_or_ge b a.size with h' | h'
 ·exact h'
 ·simp[Array.getElem?_eq_none h']at h
theorem fk.lt{g:Gh}{hp:HP}{P:Pl}:∀{o:Obj},fk g hp P o→∀b,P.bJ=some b→b<hp.size
 | .box _,⟨c,vs,t,h1,h2,_⟩,b,hb=>by rw[h1]at hb;cases hb;exact fT h2
 | .arr e l,h,b,hb=>by obtain⟨_,_,_,h4⟩:=h;rw[hb]at h4;obtain⟨_,vs,t,us,rest,h6,_⟩:=h4;exact fT h6
 | .bF e l,h,b,hb=>by obtain⟨_,_,_,h4⟩:=h;rw[hb]at h4;obtain⟨_,vs,t,us,rest,h6,_⟩:=h4;exact fT h6
theorem Mem.put{mt:Nat→Prop}{g g':Gh}{H:HF}{hp hp':HP}(M:Mem mt g H hp){n:Nat}{o:Obj}{P:Pl}(hn:g'.φ n=some P)
  (hφ:∀m Q,g.φ m=some Q→g'.φ m=some Q) (hro:g'.ro=g.ro) (hi:o.dA=false)
  (hb:∀b,P.bJ=some b→mt b∧¬g.ro b∧∀m o' Q,m≠n→H m=some o'→g.φ m=some Q→Q.bJ≠some b)
  (hk:∀c,c<hp.size→P.bJ≠some c→hp'[c]?=hp[c]?) (hs:hp.size≤hp'.size) (ho:fk g' hp' P o):Mem mt g' (eQ H n (some o)) hp':=by
 have st:cA g hp g' hp':=⟨fun b h=>by rw[hro];exact h,fun b h=>hk b (M.ro b h) (fun e=>(hb b e).2.1 h),hφ⟩
 have old:∀m o',m≠n→H m=some o'→∃Q,g.φ m=some Q∧fk g hp Q o':=fun m o' _ h=>M.obj m o' h
 refine⟨fun m o' h=>?_,fun m o' Q b h hice hQ hQb=>?_,fun m o' Q b h hice hQ hQb=>?_,fun m k o1 o2 Q1 Q2 b hmk h1 h2 hq1 hq2 hb1=>?_,fun b h=>?_⟩
 ·by_cases e:m=n
  ·subst e;rw[aS]at h;cases h;exact⟨P,hn,ho⟩
  ·rw[aR _ _ e]at h
   obtain⟨Q,hQ,hO⟩:=M.obj m o' h;exact⟨Q,hφ m Q hQ,hO.aL st fun b hQb=>hk b (hO.lt b hQb) fun ec=>(hb b ec).2.2 m o' Q e h hQ hQb⟩
 ·by_cases e:m=n
  ·subst e;rw[hn]at hQ;cases hQ;rw[hro];exact⟨(hb b hQb).1,(hb b hQb).2.1⟩
  ·rw[aR _ _ e]at h
   obtain⟨Q',hQ',_⟩:=M.obj m o' h;have:Q'=Q:=by rw[hφ m Q' hQ']at hQ;exact Option.some.inj hQ
   subst this;rw[hro];exact M.own m o' Q' b h hice hQ' hQb
 ·by_cases e:m=n
  ·subst e;rw[aS]at h;cases h;rw[hi]at hice;cases hice
  ·rw[aR _ _ e]at h
   obtain⟨Q',hQ',_⟩:=M.obj m o' h;have:Q'=Q:=by rw[hφ m Q' hQ']at hQ;exact Option.some.inj hQ
   subst this;rw[hro];exact M.bF m o' Q' b h hice hQ' hQb
 ·by_cases e1:m=n
  ·subst e1
   rw[hn]at hq1;cases hq1;rw[aR _ _ (Ne.symm hmk)]at h2;obtain⟨Q',hQ',_⟩:=M.obj k o2 h2;have:Q'=Q2:=by rw[hφ k Q' hQ']at hq2;exact Option.some.inj hq2
   subst this;exact(hb b hb1).2.2 k o2 Q' (Ne.symm hmk) h2 hQ'
  ·rw[aR _ _ e1]at h1
   obtain⟨Q',hQ',_⟩:=M.obj m o1 h1;have:Q'=Q1:=by rw[hφ m Q' hQ']at hq1;exact Option.some.inj hq1
   subst this
   by_cases e2:k=n
   ·subst e2
    rw[hn]at hq2;cases hq2;exact fun e=>(hb b e).2.2 m o1 Q' e1 h1 hQ' hb1
   ·rw[aR _ _ e2]at h2
    obtain⟨Q3,hQ3,_⟩:=M.obj k o2 h2;have:Q3=Q2:=by rw[hφ k Q3 hQ3]at hq2;exact Option.some.inj hq2
    subst this;exact M.sep m k o1 o2 Q' Q3 b hmk h1 h2 hQ' hQ3 hb1
 ·rw[hro]at h;exact Nat.lt_of_lt_of_le (M.ro b h) hs
theorem Mem.del{mt:Nat→Prop}{g:Gh}{H:HF}{hp:HP}(M:Mem mt g H hp)(n:Nat):Mem mt g (eQ H n none) hp:=by
 have back:∀m o,eQ H n none m=some o→m≠n∧H m=some o:=fun m o h=>by
  by_cases e:m=n
  ·subst e;rw[aS]at h;cases h
  ·rw[aR _ _ e]at h;exact⟨e,h⟩
 exact⟨fun m o h=>M.obj m o (back m o h).2,fun m o P b h=>M.own m o P b (back m o h).2,fun m o P b h=>M.bF m o P b (back m o h).2,
  fun m k o o' P Q b hmk h1 h2=>M.sep m k o o' P Q b hmk (back m o h1).2 (back k o' h2).2,M.ro⟩
theorem Mem.freeze{mt:Nat→Prop}{g:Gh}{H:HF}{hp:HP}(M:Mem mt g H hp){n:Nat}{e:Ty}{l:List e.T}{P:Pl}(hn:H n=some (.arr e l))(hP:g.φ n=some P) :
  Mem mt ⟨g.φ,fun b=>g.ro b∨P.bJ=some b⟩ (eQ H n (some (.bF e l))) hp:=by
 have st:cA g hp ⟨g.φ,fun b=>g.ro b∨P.bJ=some b⟩ hp:=⟨fun b h=>.inl h,fun _ _=>rfl,fun _ _ h=>h⟩
 obtain⟨P',hP',hO⟩:=M.obj n _ hn;have:P'=P:=by rw[hP]at hP';exact(Option.some.inj hP').symm
 subst this;refine⟨fun m o h=>?_,fun m o Q b h hice hQ hQb=>?_,fun m o Q b h hice hQ hQb=>?_,fun m k o1 o2 Q1 Q2 b hmk h1 h2 hq1 hq2 hb1=>?_,fun b h=>?_⟩
 ·by_cases e:m=n
  ·subst e;rw[aS]at h;cases h
   exact⟨P',hP,(show fk _ hp P' (.bF _ l) from (hO.aL st fun _ _=>rfl:fk _ hp P' (.arr _ l)))⟩
  ·rw[aR _ _ e]at h
   obtain⟨Q,hQ,hO'⟩:=M.obj m o h;exact⟨Q,hQ,hO'.aL st fun _ _=>rfl⟩
 ·by_cases e:m=n
  ·subst e;rw[aS]at h;cases h;cases hice
  ·rw[aR _ _ e]at h
   have:=M.own m o Q b h hice hQ hQb;exact⟨this.1,fun hr=>hr.elim this.2 fun he=>M.sep m n o _ Q P' b e h hn hQ hP hQb he⟩
 ·by_cases e:m=n
  ·subst e;rw[hP]at hQ;cases hQ;exact .inr hQb
  ·rw[aR _ _ e]at h
   exact .inl (M.bF m o Q b h hice hQ hQb)
 ·have back:∀m o,eQ H n (some (.bF e l)) m=some o→∃o',H m=some o':=fun m o h=>by
   by_cases e':m=n
   ·subst e';exact⟨_,hn⟩
   ·rw[aR _ _ e']at h;exact⟨o,h⟩
  obtain⟨o1',h1'⟩:=back m o1 h1;obtain⟨o2',h2'⟩:=back k o2 h2;exact M.sep m k o1' o2' Q1 Q2 b hmk h1' h2' hq1 hq2 hb1
 ·exact h.elim (M.ro b) fun he=>hO.lt b he
end Go.Proofs.YthdgahpomhnidaaGreat.Mx

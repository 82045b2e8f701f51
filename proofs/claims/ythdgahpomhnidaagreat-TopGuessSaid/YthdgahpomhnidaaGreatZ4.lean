/- The interpreter's operations on numbers,bools,floats and strings do what the model's do (own work). -/
import Derived.Laws.Cover2
import Derived.Laws.Cover3
import Derived.Laws.Small
import Derived.Laws.Pointers
import Derived.Laws.Slices
import Derived.Test.YthdgahpomhnidaaGreatZ3
namespace Go.Proofs.YthdgahpomhnidaaGreat.Mx
open Go
set_option autoImplicit false
set_option linter.unusedVariables false
set_option linter.unusedSimpArgs false
variable {P:Program}
def Gives (P:Program) (g:Gh) (H H':HF) (w:World) (v:SV) (s:Sem Value):Prop:=∃ V,s.run P w = .ok V w∧SVR g w.heap v V∧H' = H
section
variable {g:Gh} {H H':HF} {w:World} {base:Nat} {fp fp':FP} {v:SV}
theorem ret_eval {c:CV} (h:(ret c).eval base H fp = some (v,H',fp')):v = .v (.c c)∧H' = H:=by
 simp only [ret,MA.eval,Option.some.injEq,Prod.mk.injEq] at h
 exact ⟨h.1.symm,h.2.1.symm⟩
theorem gives_ret {c:CV} {V:Value} {s:Sem Value} (h:(ret c).eval base H fp = some (v,H',fp')) (hs:s.run P w = .ok V w) (hv:VR g w.heap c V):Gives P g H H' w v s:=by
 obtain ⟨rfl,rfl⟩:=ret_eval h
 exact ⟨V,hs,hv,rfl⟩
theorem cond_eval {α:Type} {c:Bool} {m n:MA α} {a:α} (h:(MA.cond c m n).eval base H fp = some (a,H',fp')):(c = true∧m.eval base H fp = some (a,H',fp')) ∨ (c = false∧n.eval base H fp = some (a,H',fp')):=by
 cases c with
 | true=>exact .inl ⟨rfl,by simpa [MA.eval] using h⟩
 | false=>exact .inr ⟨rfl,by simpa [MA.eval] using h⟩
theorem fail_eval {α:Type} {a:α} (h:(MA.fail:MA α).eval base H fp = some (a,H',fp')):False:=by cases h
theorem arith_does {op:BinOp} {t:Nat} {k:IntKind} {a b:Int} (h1:op ≠ .shl) (h2:op ≠ .shr) (h:(arithM op k a b).eval base H fp = some (v,H',fp')) :
  Gives P g H H' w v (binOp op t (.int k a) (.int k b)):=by
 cases op <;> simp only [arithM] at h
 case shl=>exact absurd rfl h1
 case shr=>exact absurd rfl h2
 case andNot=>exact (fail_eval h).elim
 case quo =>
  rcases cond_eval h with ⟨_,h⟩ | ⟨hb,h⟩
  ·exact (fail_eval h).elim
  ·have hb':¬ b = 0:=by simpa using hb
   exact gives_ret h (by simp [binOp,Op.intDiv,hb']) rfl
 case rem =>
  rcases cond_eval h with ⟨_,h⟩ | ⟨hb,h⟩
  ·exact (fail_eval h).elim
  ·have hb':¬ b = 0:=by simpa using hb
   exact gives_ret h (by simp [binOp,Op.intDiv,hb']) rfl
 case add=>exact gives_ret h (by simp [binOp,Op.intArith]) rfl
 case sub=>exact gives_ret h (by simp [binOp,Op.intArith]) rfl
 case mul=>exact gives_ret h (by simp [binOp,Op.intArith]) rfl
 case and=>exact gives_ret h (by simp only [binOp,Op.intBits,ne_eq,not_true_eq_false,if_false];rfl) rfl
 case or=>exact gives_ret h (by simp only [binOp,Op.intBits,ne_eq,not_true_eq_false,if_false];rfl) rfl
 case xor=>exact gives_ret h (by simp only [binOp,Op.intBits,ne_eq,not_true_eq_false,if_false];rfl) rfl
 all_goals exact gives_ret h (by simp only [binOp,Op.intCmp,ne_eq,not_true_eq_false,if_false];rfl) rfl
theorem shift_does {op:BinOp} {t:Nat} {k k':IntKind} {a b:Int} (hop:op = .shl ∨ op = .shr) (h:(shiftM op k a b).eval base H fp = some (v,H',fp')) :
  Gives P g H H' w v (binOp op t (.int k a) (.int k' b)):=by
 unfold shiftM at h
 rcases cond_eval h with ⟨_,h⟩ | ⟨hb,h⟩
 ·exact (fail_eval h).elim
 ·have hb':¬ b < 0:=by simpa using hb
  rcases hop with rfl | rfl
  ·exact gives_ret h (by simp only [binOp,Op.shift,hb',if_false];rfl) rfl
  ·exact gives_ret h (by simp only [binOp,Op.shift,hb',if_false];rfl) rfl
theorem boolM_does {op:BinOp} {b:Bool} {s:Sem Value} (h:(boolM op b).eval base H fp = some (v,H',fp')) (h1:op = .eql→s.run P w = .ok (.bool b) w) (h2:op = .neq→s.run P w = .ok (.bool (!b)) w):Gives P g H H' w v s:=by
 cases op <;> simp only [boolM] at h
 case eql=>exact gives_ret h (h1 rfl) rfl
 case neq=>exact gives_ret h (h2 rfl) rfl
 all_goals exact (fail_eval h).elim
theorem small_lt {x:Int} (h:small x = true):x.natAbs < 9007199254740992:=by simpa [small] using h
def SK.Of:SK→Value→Prop
 | .int k,v=>∃ n,v = .int k n
 | .bool,v=>∃ b,v = .bool b
def eqV:List Value→List Value→Bool
 | [],[]=>true
 | .int _ a :: x,.int _ b :: y=>(a == b) && eqV x y
 | .bool a :: x,.bool b :: y=>(a == b) && eqV x y
 | _,_=>false
structure EqOk (P:Program) (t:Nat) (ks:List SK):Prop where
 guard:P.eqGuardType P.depth t = false
 eq:∀ (w:World) (xs ys:List Value),All2 SK.Of ks xs→All2 SK.Of ks ys→(Op.equalIn 10000 t (.agg xs.toArray) (.agg ys.toArray)).run P w = .ok (eqV xs ys) w
def EqsOk (P:Program) (l:List (Nat×List SK)):Prop:=∀ t ks,skget l t = some ks→EqOk P t ks
theorem EqsOk.nil (P:Program):EqsOk P []:=fun _ _ h=>by cases h
theorem EqsOk.cons {t:Nat} {ks:List SK} {l:List (Nat×List SK)} (h:EqOk P t ks) (hl:EqsOk P l):EqsOk P ((t,ks) :: l):=fun t' i' h'=>by
 by_cases e:t = t'
 ·subst e;simp only [skget,beq_self] at h';cases h';exact h
 ·simp only [skget,beq_ne e] at h';exact hl t' i' h'
theorem eq1_spec {hp:HP} {k:SK} {x y:CV} {u v:Value} {b:Bool} (hx:VR g hp x u) (hy:VR g hp y v) (h:eq1 k x y = some b):SK.Of k u∧SK.Of k v∧∀ us vs,eqV (u :: us) (v :: vs) = (b && eqV us vs):=by
 unfold eq1 at h
 split at h
 ·split at h
  ·rename_i hk
   obtain ⟨rfl,rfl⟩:=hk
   simp only [Option.some.injEq] at h
   subst h
   obtain rfl:u = _:=hx;obtain rfl:v = _:=hy
   exact ⟨⟨_,rfl⟩,⟨_,rfl⟩,fun _ _=>rfl⟩
  ·cases h
 ·simp only [Option.some.injEq] at h
  subst h
  obtain rfl:u = _:=hx;obtain rfl:v = _:=hy
  exact ⟨⟨_,rfl⟩,⟨_,rfl⟩,fun _ _=>rfl⟩
 ·cases h
theorem eqCs_spec {hp:HP}:∀ (ks:List SK) (xs ys:List CV) (us vs:List Value) (b:Bool),All2 (VR g hp) xs us→All2 (VR g hp) ys vs→eqCs ks xs ys = some b→All2 SK.Of ks us∧All2 SK.Of ks vs∧eqV us vs = b
 | [],[],[],[],[],b,_,_,h=>by simp only [eqCs,Option.some.injEq] at h;subst h;exact ⟨trivial,trivial,rfl⟩
 | k :: ks,x :: xs,y :: ys,u :: us,v :: vs,b,⟨hx,hxs⟩,⟨hy,hys⟩,h=>by
  simp only [eqCs] at h
  cases h1:eq1 k x y with
  | none=>rw [h1] at h;cases h
  | some b1 =>
   rw [h1] at h
   simp only at h
   cases h2:eqCs ks xs ys with
   | none=>rw [h2] at h;cases h
   | some r =>
    rw [h2] at h
    simp only [Option.some.injEq] at h
    obtain ⟨a1,a2,a3⟩:=eq1_spec hx hy h1
    obtain ⟨b1',b2,b3⟩:=eqCs_spec ks xs ys us vs r hxs hys h2
    exact ⟨⟨a1,b1'⟩,⟨a2,b2⟩,by rw [a3,b3,h]⟩
 | [],[],[],_ :: _,_,_,h,_,_=>h.elim
 | [],[],[],[],_ :: _,_,_,h,_=>h.elim
 | _,_ :: _,_,[],_,_,h,_,_=>h.elim
 | _,_,_ :: _,_,[],_,_,h,_=>h.elim
 | [],_ :: _,_,_,_,_,_,_,h=>by simp [eqCs] at h
 | [],[],_ :: _,_,_,_,_,_,h=>by simp [eqCs] at h
 | _ :: _,[],_,_,_,_,_,_,h=>by simp [eqCs] at h
 | _ :: _,_ :: _,[],_,_,_,_,_,h=>by simp [eqCs] at h
theorem eqIn_nil1 {t e:Nat} (hd:P.underlying t = some (.pointer e)) (q:Option Addr) (d:Nat) (w:World):(Op.equalIn (d + 1) t (.pointer none) (.pointer q)).run P w = .ok q.isNone w:=by
 simp [Op.equalIn,run_underlying hd]
theorem eqIn_nil2 {t e:Nat} (hd:P.underlying t = some (.pointer e)) (q:Addr) (d:Nat) (w:World):(Op.equalIn (d + 1) t (.pointer (some q)) (.pointer none)).run P w = .ok false w:=by
 simp [Op.equalIn,run_underlying hd]
theorem eqIn_nils {t e:Nat} (hd:P.underlying t = some (.slice e)) (d:Nat) (w:World):(Op.equalIn (d + 1) t (.slice none 0 0) (.slice none 0 0)).run P w = .ok true w:=by
 simp [Op.equalIn,run_underlying hd]
theorem equal_nil {t:Nat} {x y:CV} {X Y:Value} {i:TI} {b:Bool} {hp:HP} (ht:TIok P t i) (hx:VR g hp x X) (hy:VR g hp y Y) (h:nilEq i.und x y = some b) (w:World):(Op.equal t X Y).run P w = .ok b w∧(∀ op z1 z2,(eqGuard op t z1 z2 X Y).run P w = .ok () w)∧(binOp .eql t X Y = do pure (.bool (← Op.equal t X Y)))∧(binOp .neq t X Y = do pure (.bool (!(← Op.equal t X Y)))):=by
 obtain ⟨d,hd,hu⟩:=und_run ht
 unfold nilEq at h
 split at h
 · -- pointers
  rename_i e he
  rw [he] at hu
  cases d <;> first | (cases hu;done) | (injection hu with hu;subst hu)
  have hg:∀ (p q:Option Addr) op z1 z2,(eqGuard op t z1 z2 (.pointer p) (.pointer q)).run P w = .ok () w:=fun p q op z1 z2=>by
   cases op <;> simp [eqGuard]
  have hb:∀ (p q:Option Addr),(binOp .eql t (.pointer p) (.pointer q) = do pure (.bool (← Op.equal t (.pointer p) (.pointer q))))∧(binOp .neq t (.pointer p) (.pointer q) = do pure (.bool (!(← Op.equal t (.pointer p) (.pointer q))))):=fun p q=>⟨rfl,rfl⟩
  have e1:∀ q:Option Addr,(Op.equal t (.pointer none) (.pointer q)).run P w = .ok q.isNone w:=fun q=>eqIn_nil1 hd q 9999 w
  have e2:∀ q:Addr,(Op.equal t (.pointer (some q)) (.pointer none)).run P w = .ok false w:=fun q=>eqIn_nil2 hd q 9999 w
  split at h <;> (try simp only [Option.some.injEq] at h) <;> first | (cases h;done) | subst h
  ·obtain rfl:X = _:=hx;obtain rfl:Y = _:=hy
   exact ⟨e1 none,hg _ _,hb _ _⟩
  ·obtain rfl:X = _:=hx;obtain ⟨_,c,_,_,rfl⟩:=hy
   exact ⟨e1 _,hg _ _,hb _ _⟩
  ·obtain ⟨_,c,_,_,rfl⟩:=hx;obtain rfl:Y = _:=hy
   exact ⟨e2 _,hg _ _,hb _ _⟩
  ·obtain rfl:X = _:=hx;obtain ⟨_,c,_,_,_,rfl⟩:=hy
   exact ⟨e1 _,hg _ _,hb _ _⟩
  ·obtain ⟨_,c,_,_,_,rfl⟩:=hx;obtain rfl:Y = _:=hy
   exact ⟨e2 _,hg _ _,hb _ _⟩
 ·rename_i e he
  rw [he] at hu
  cases d <;> first | (cases hu;done) | (injection hu with hu;subst hu)
  split at h <;> (try simp only [Option.some.injEq] at h) <;> first | (cases h;done) | subst h
  obtain rfl:X = _:=hx;obtain rfl:Y = _:=hy
  exact ⟨eqIn_nils hd 9999 w,fun op z1 z2=>by cases op <;> simp [eqGuard],rfl,rfl⟩
 ·cases h
theorem eqGuard_one (op:BinOp) (t:Nat) (z1 z2:Operand) (X Y:Value) (h1:∀ c,X ≠ .agg c) (h2:X ≠ .nilIface) (w:World):(eqGuard op t z1 z2 X Y).run P w = .ok () w:=by
 unfold eqGuard
 cases op <;> simp only [Bool.not_true,Bool.not_false,if_true,if_false,Sem.run_bind,Sem.run_pure,Result.andThen_ok,Bool.false_eq_true] <;> first
  | rfl
  | (cases X <;> first | rfl | exact absurd rfl (h1 _) | exact absurd rfl h2)
theorem bin_does {tis:List (Nat×TI)} {eqs:List (Nat×List SK)} {op:BinOp} {t:Nat} {x y:SV} {X Y:Value} (T:TIs P tis) (Eq:EqsOk P eqs) (hx:SVR g w.heap x X) (hy:SVR g w.heap y Y) (z1 z2:Operand)
  (h:(binM tis eqs op t x y).eval base H fp = some (v,H',fp')):Gives P g H H' w v (do eqGuard op t z1 z2 X Y;binOp op t X Y):=by
 have guard:∀ {s:Sem Value},(eqGuard op t z1 z2 X Y).run P w = .ok () w→Gives P g H H' w v s→Gives P g H H' w v (do eqGuard op t z1 z2 X Y;s):=fun hg ⟨V,h1,h2⟩=>⟨V,by simp only [Sem.run_bind,hg,Result.andThen_ok,h1],h2⟩
 unfold binM at h
 split at h
 ·obtain rfl:X = _:=hx;obtain rfl:Y = _:=hy
  refine guard (eqGuard_one _ _ _ _ _ _ (fun _=>by simp) (by simp) w) ?_
  split at h
  ·exact shift_does (.inl rfl) h
  ·exact shift_does (.inr rfl) h
  ·split at h
   ·rename_i hk;subst hk;exact arith_does (by assumption) (by assumption) h
   ·exact (fail_eval h).elim
 ·obtain rfl:X = _:=hx;obtain rfl:Y = _:=hy
  refine guard (eqGuard_one _ _ _ _ _ _ (fun _=>by simp) (by simp) w) ?_
  exact boolM_does h (fun e=>by subst e;simp only [binOp,Op.stringOp];rfl) (fun e=>by subst e;simp only [binOp,Op.stringOp];rfl)
 ·rename_i x1 y1 u1 v1
  obtain ⟨a,b,rfl,ra,rb⟩:=(hx:VR g w.heap (.cint x1 y1) X)
  obtain ⟨c,d,rfl,rc,rd⟩:=(hy:VR g w.heap (.cint u1 v1) Y)
  refine guard (eqGuard_one _ _ _ _ _ _ (fun _=>by simp) (by simp) w) ?_
  split at h
  ·rcases cond_eval h with ⟨hb,h⟩ | ⟨_,h⟩
   ·simp only [Bool.and_eq_true] at hb
    obtain ⟨re,im,hs,q1,q2⟩:=YthdgahpomhnidaaGreatF.places ra rb rc rd (small_lt hb.1) (small_lt hb.2)
    exact gives_ret h (run_complex_sum (P:=P) w .add (.inl rfl) t .f64 a b c d re im hs) ⟨re,im,rfl,q1,q2⟩
   ·exact (fail_eval h).elim
  ·rcases cond_eval h with ⟨hi,h⟩ | ⟨_,h⟩
   ·rcases cond_eval h with ⟨hb,hh⟩ | ⟨_,h⟩
    ·simp only [Bool.and_eq_true,isI,decide_eq_true_eq] at hb hi
     obtain ⟨rfl,rfl⟩:=hi
     have bx:=small_lt hb.1
     have bY:=small_lt hb.2
     obtain ⟨ac,h1,r1⟩:=YthdgahpomhnidaaGreatF.mul_rep ra rc (by simp)
     obtain ⟨bd,h2,r2⟩:=YthdgahpomhnidaaGreatF.mul_rep rb rd (by simpa using bY)
     obtain ⟨re,h3,r3⟩:=YthdgahpomhnidaaGreatF.sub_rep r1 r2 (by simp;omega)
     obtain ⟨ad,h4,r4⟩:=YthdgahpomhnidaaGreatF.mul_rep ra rd (by simpa using bx)
     obtain ⟨bc,h5,r5⟩:=YthdgahpomhnidaaGreatF.mul_rep rb rc (by simp)
     obtain ⟨im,h6,r6⟩:=YthdgahpomhnidaaGreatF.add_rep r4 r5 (by simpa using bx)
     refine gives_ret hh (run_complex_mul (P:=P) w t a b c d re im ?_) ⟨re,im,rfl,by simpa using r3,by simpa using r6⟩
     unfold cMulBits
     simp only [h1,h2,h3,h4,h5,h6,Option.bind_some]
    ·exact (fail_eval h).elim
   ·exact (fail_eval h).elim
  ·exact (fail_eval h).elim
 ·rename_i xs ys
  obtain ⟨us,rfl,hxs⟩:=(hx:AVR g w.heap (.agg xs) X)
  obtain ⟨vs,rfl,hys⟩:=(hy:AVR g w.heap (.agg ys) Y)
  split at h
  ·rename_i ks hks
   split at h
   ·rename_i b hb
    obtain ⟨k1,k2,k3⟩:=eqCs_spec ks xs ys us vs b hxs hys hb
    have ok:=Eq t ks hks
    refine guard (run_eqGuard_agg w op t z1 z2 _ _ ok.guard) ?_
    refine boolM_does h (fun e=>?_) (fun e=>?_)
    ·subst e;rw [run_eql_struct,ok.eq w us vs k1 k2,Result.andThen_ok,k3]
    ·subst e;rw [run_neq_struct,ok.eq w us vs k1 k2,Result.andThen_ok,k3]
   ·exact (fail_eval h).elim
  ·exact (fail_eval h).elim
 ·rename_i x1 y1 _ _ _ 
  split at h
  ·rename_i i hi
   have ht:=T t i hi
   split at h
   ·obtain rfl:X = _:=hx;obtain rfl:Y = _:=hy
    split at h
    ·rename_i hu
     obtain ⟨d,hd,hu2⟩:=und_run ht
     rw [hu] at hu2
     cases d <;> first | (cases hu2;done) | skip
     refine guard (eqGuard_one _ _ _ _ _ _ (fun _=>by simp) (by simp) w) ?_
     exact boolM_does h (fun e=>by subst e;exact run_eql_bool w t _ _ hd) (fun e=>by subst e;exact run_neq_bool w t _ _ hd)
    ·exact (fail_eval h).elim
   ·split at h
    ·rename_i b hb
     obtain ⟨e1,e2,e3,e4⟩:=equal_nil ht hx hy hb w
     refine guard (e2 _ _ _) ?_
     refine boolM_does h (fun e=>?_) (fun e=>?_)
     ·subst e;rw [e3];simp only [Sem.run_bind,e1,Result.andThen_ok,Sem.run_pure]
     ·subst e;rw [e4];simp only [Sem.run_bind,e1,Result.andThen_ok,Sem.run_pure]
    ·exact (fail_eval h).elim
  ·exact (fail_eval h).elim
 ·exact (fail_eval h).elim
end
end Go.Proofs.YthdgahpomhnidaaGreat.Mx
/- The interpreter's operations that make no block do what the model's do (own work). -/
namespace Go.Proofs.YthdgahpomhnidaaGreat.Mx
open Go
set_option autoImplicit false
set_option linter.unusedVariables false
set_option linter.unusedSimpArgs false
variable {P:Program}
section
variable {mt:Nat→Prop} {g:Gh} {H H':HF} {w:World} {base:Nat} {fp fp':FP} {v:SV}
theorem get_eval {α:Type} {n:Nat} {k:Obj→MA α} {a:α} (h:(MA.get n k).eval base H fp = some (a,H',fp')):∃ o,H n = some o∧(k o).eval base H ⟨n :: fp.reads,fp.writes⟩ = some (a,H',fp'):=by
 simp only [MA.eval] at h
 cases ho:H n with
 | none=>rw [ho] at h;cases h
 | some o=>rw [ho] at h;exact ⟨o,rfl,h⟩
theorem un_does {op:UnOp} {x:SV} {X:Value} (hx:SVR g w.heap x X) (h:(unM op x).eval base H fp = some (v,H',fp')):Gives P g H H' w v (Op.unary op X):=by
 unfold unM at h
 split at h
 ·obtain rfl:X = _:=hx
  split at h
  ·exact gives_ret h (by simp [Op.unary,Op.intArith]) rfl
  ·exact (fail_eval h).elim
 ·obtain rfl:X = _:=hx
  split at h
  ·exact gives_ret h (by simp [Op.unary]) rfl
  ·exact (fail_eval h).elim
 ·exact (fail_eval h).elim
theorem bytes_read {ro:Nat→Prop} {hp:HP}:∀ (l:List Int) (vs:List Value),RdL (Rd ro hp (.int .u8)) l vs→vs = l.map (Value.int .u8)
 | [],vs,h=>h
 | x :: l,vs,⟨u,r,h1,h2,h3⟩=>by
  obtain rfl:u = [.int .u8 x]:=h2
  rw [h1,bytes_read l r h3]
  rfl
theorem foldl_bytes:∀ (l:List Int) (s:ByteArray),l.foldl (fun r n=>r.push (UInt8.ofNat n.toNat)) s = ⟨s.data ++ (l.map fun n=>UInt8.ofNat n.toNat).toArray⟩
 | [],⟨d⟩=>congrArg ByteArray.mk (Array.append_empty (xs:=d)).symm
 | x :: l,⟨d⟩=>by
  rw [List.foldl_cons,foldl_bytes l]
  refine congrArg ByteArray.mk ?_
  show (d.push _) ++ _ = _
  rw [List.map_cons,Array.push_eq_append,Array.append_assoc]
  congr 1
  simp
theorem bytesToString_run {l:List Int} {A:Option Addr} {c:Nat} (hA:l ≠ []→∃ b o cs t fz rest,A = some ⟨b,o,none⟩∧w.heap[b]? = some (.cells cs t fz)∧cs.toList.drop o = l.map (Value.int .u8) ++ rest) :
  (Conv.bytesToString (.slice A l.length c)).run P w = .ok (.string (bytesOf l)) w:=by
 have hb:∀ m:List Int,m.foldl (fun r n=>r.push (UInt8.ofNat n.toNat)) ByteArray.empty = bytesOf m:=fun m=>by
  rw [foldl_bytes]
  exact congrArg ByteArray.mk (by show (#[]:Array UInt8) ++ _ = _;exact Array.empty_append)
 cases l with
 | nil =>
  cases A with
  | none=>simp only [Conv.bytesToString,Sem.run_pure];rfl
  | some a=>rw [run_bytesToString w a _ c [] (by simp [loadCells,loadCellsFrom])];rfl
 | cons x l =>
  obtain ⟨b,o,cs,t,fz,rest,rfl,hh,hd⟩:=hA (by simp)
  have hl:(loadCells ⟨b,o,none⟩ ((x :: l).map (Value.int .u8)).length).run P w = .ok ((x :: l).map (Value.int .u8)).toArray w:=by
   refine run_loadCells_list (P:=P) w ⟨b,o,none⟩ _ fun j u hj=>?_
   have hadd:(⟨b,o,none⟩:Addr).add j = ⟨b,o + j,none⟩:=by unfold Addr.add;split <;> first | (subst_vars;rfl) | rfl
   rw [hadd,cell_blk hh,← List.getElem?_drop,hd,List.getElem?_append_left (List.getElem?_eq_some_iff.1 hj).1]
   exact hj
  rw [List.length_map] at hl
  rw [run_bytesToString w _ _ c (x :: l) hl,hb]
theorem arr_row {Q:Pl} {e:Ty} {l:List e.T} (h:ArrR g w.heap Q e l):l ≠ []→∃ b cs t fz us rest,Q.base = some ⟨b,0,none⟩∧w.heap[b]? = some (.cells cs t fz)∧cs.toList = us ++ rest∧RdL (Rd g.ro w.heap e) l us:=fun hl=>by
 obtain ⟨h1,h2,h3,h4⟩:=h
 cases hb:Q.blk with
 | none=>rw [hb] at h4;rw [h1] at h4;exact absurd (List.length_eq_zero_iff.1 h4.1) hl
 | some b =>
  rw [hb] at h4
  obtain ⟨h5,vs,t,us,rest,h6,h7,h8,h9⟩:=h4
  exact ⟨b,vs,t,(0,0),us,rest,h5,h6,h7,h8⟩
theorem isBytes_spec {tis:List (Nat×TI)} (T:TIs P tis) {s:Nat} {i:TI} (hs:TIok P s i) (h:isBytes tis i.und = true):∃ e,P.underlying s = some (.slice e)∧P.underlying e = some (.int .u8):=by
 unfold isBytes at h
 split at h
 ·rename_i e he
  obtain ⟨d,hd,hu⟩:=und_run hs
  rw [he] at hu
  cases d <;> first | (cases hu;done) | (injection hu with hu;subst hu)
  split at h
  ·rename_i i' hi'
   split at h
   ·rename_i hk
    obtain ⟨d',hd',hu'⟩:=und_run (T _ _ hi')
    rw [hk] at hu'
    cases d' <;> first | (cases hu';done) | (injection hu' with hu';subst hu')
    exact ⟨_,hd,hd'⟩
   ·cases h
  ·cases h
 ·cases h
theorem conv_does {tis:List (Nat×TI)} {s d:Nat} {i j:TI} {x:SV} {X:Value} (T:TIs P tis) (hs:TIok P s i) (hd:TIok P d j) (M:Mem mt g H w.heap) (hx:SVR g w.heap x X) (h:(convM tis i.und j.und x).eval base H fp = some (v,H',fp')) :
  Gives P g H H' w v (convert s d X):=by
 obtain ⟨ds,hds,us⟩:=und_run hs
 obtain ⟨dd,hdd,ud⟩:=und_run hd
 have str:∀ {l:List Int} {A:Option Addr} {c:Nat},j.und = .str→isBytes tis i.und = true→(l ≠ []→∃ b o cs t fz rest,A = some ⟨b,o,none⟩∧w.heap[b]? = some (.cells cs t fz)∧cs.toList.drop o = l.map (Value.int .u8) ++ rest) →
   (convert s d (.slice A l.length c)).run P w = .ok (.string (bytesOf l)) w:=fun {l A c} hj hb hA=>by
  obtain ⟨e,h1,h2⟩:=isBytes_spec T hs hb
  rw [hj] at ud
  cases dd <;> first | (cases ud;done) | skip
  rw [run_convert_bytes_string w s d e A _ c h1 h2 hdd]
  exact bytesToString_run hA
 unfold convM at h
 split at h
 ·obtain rfl:X = _:=hx
  split at h
  ·rename_i k hk
   rw [hk] at ud
   cases dd <;> first | (cases ud;done) | (injection ud with ud;subst ud)
   exact gives_ret h (by simp only [convert,Sem.run_bind,run_underlying hds,run_underlying hdd,Result.andThen_ok];rfl) rfl
  ·rename_i hk
   rw [hk] at ud
   cases dd <;> first | (cases ud;done) | (injection ud with ud;subst ud)
   rcases cond_eval h with ⟨hb,h⟩ | ⟨_,h⟩
   ·exact gives_ret h (run_convert_int_float (P:=P) w s d _ _ _ (by simp [hds]) hdd) ⟨_,rfl,YthdgahpomhnidaaGreatF.ofInt_rep _ (small_lt hb)⟩
   ·exact (fail_eval h).elim
  ·exact (fail_eval h).elim
 ·rename_i n
  obtain ⟨b,rfl,hr⟩:=(hx:VR g w.heap (.fint n) X)
  split at h
  ·rename_i hk
   rw [hk] at ud
   cases dd <;> first | (cases ud;done) | (injection ud with ud;subst ud)
   rcases cond_eval h with ⟨hb,h⟩ | ⟨_,h⟩
   ·have:=small_lt hb
    exact gives_ret h (run_convert_float_int (P:=P) w s d .f64 .i64 b n (by simp [hds]) hdd (YthdgahpomhnidaaGreatF.toInt_rep hr (by omega) (by omega))) rfl
   ·exact (fail_eval h).elim
  ·exact (fail_eval h).elim
 ·rename_i l
  obtain ⟨A,c,hv,hc,hr⟩:=(hx:Rd g.ro w.heap (.row (.int .u8)) l [X])
  simp only [List.cons.injEq,and_true] at hv
  subst hv
  split at h
  ·rename_i hj
   cases hb:isBytes tis i.und with
   | false=>rw [hb] at h;exact (fail_eval h).elim
   | true =>
    rw [hb] at h
    refine gives_ret h (str hj hb fun hl=>?_) rfl
    obtain ⟨b,o,cs,t,fz,us,rest,h1,h2,h3,h4,h5⟩:=hr hl
    exact ⟨b,o,cs,t,fz,rest,h1,h3,by rw [h4,bytes_read _ us h5]⟩
  ·exact (fail_eval h).elim
 ·obtain rfl:X = _:=hx
  split at h
  ·rename_i hj
   cases hb:isBytes tis i.und with
   | false=>rw [hb] at h;exact (fail_eval h).elim
   | true=>rw [hb] at h;exact gives_ret h (str (l:=[]) (A:=none) (c:=0) hj hb fun hl=>absurd rfl hl) rfl
  ·exact (fail_eval h).elim
 ·rename_i n
  obtain ⟨Q,hQ,rfl⟩:=(hx:VR g w.heap (.own n) X)
  split at h
  ·rename_i hj
   cases hb:isBytes tis i.und with
   | false=>rw [hb] at h;exact (fail_eval h).elim
   | true =>
    rw [hb] at h
    obtain ⟨o,ho,h⟩:=get_eval h
    obtain ⟨Q',hQ',hO⟩:=M.obj n o ho
    rw [hQ] at hQ'
    cases hQ'
    have fin:∀ l:List Int,ArrR g w.heap Q (.int .u8) l→(convert s d (.slice Q.base Q.len Q.cap)).run P w = .ok (.string (bytesOf l)) w:=fun l hA=>by
     rw [hA.1]
     refine str hj hb fun hl=>?_
     obtain ⟨b,cs,t,fz,us,rest,h1,h2,h3,h4⟩:=arr_row hA hl
     exact ⟨b,0,cs,t,fz,rest,h1,h2,by rw [List.drop_zero,h3,bytes_read _ us h4]⟩
    split at h
    ·exact gives_ret h (fin _ hO) rfl
    ·exact gives_ret h (fin _ hO) rfl
    ·exact (fail_eval h).elim
  ·exact (fail_eval h).elim
 ·exact (fail_eval h).elim
theorem inRange_spec {z:Int} {n:Nat} (h:inRange z n = true):0 ≤ z∧z < n:=by simpa [inRange] using h
theorem idx_run {t e:Nat} {i j:TI} {z:Int} {k:IntKind} {A:Option Addr} {len cap b o:Nat} (ht:TIok P t i) (he:TIok P e j) (hu:i.und = .slice e) (hz:0 ≤ z∧z < len) (hA:A = some ⟨b,o,none⟩) :
  (Instr.indexAt t (.slice A len cap) (.int k z)).run P w = .ok (.pointer (some ⟨b,o + z.toNat * j.size,none⟩)) w:=by
 obtain ⟨d,hd,hu2⟩:=und_run ht
 rw [hu] at hu2
 cases d <;> first | (cases hu2;done) | (injection hu2 with hu2;subst hu2)
 subst hA
 have hadd:∀ q,(⟨b,o,none⟩:Addr).add q = ⟨b,o + q,none⟩:=fun q=>by unfold Addr.add;split <;> first | (subst_vars;rfl) | rfl
 simp only [Instr.indexAt,asIntOf,Sem.run_bind,Sem.run_pure,Result.andThen_ok,run_underlying hd,hz,and_self,if_true,sizeOf_run he,hadd]
theorem eptr_of {n k:Nat} {Q:Pl} {e:Ty} {l:List e.T} {b s:Nat} (hQ:g.φ n = some Q) (hA:ArrR g w.heap Q e l) (hk:k < l.length) (hs:e.size = s) :
  ∃ b,Q.blk = some b∧Q.base = some ⟨b,0,none⟩∧VR g w.heap (.eptr n k 0) (.pointer (some ⟨b,k * s,none⟩)):=by
 obtain ⟨h1,h2,h3,h4⟩:=hA
 cases hb:Q.blk with
 | none=>rw [hb] at h4;omega
 | some b =>
  rw [hb] at h4
  exact ⟨b,rfl,h4.1,Q,b,hQ,hb,by omega,by rw [h2,hs];rfl⟩
theorem idx_does {t e:Nat} {i j:TI} {x y:SV} {X Y:Value} (ht:TIok P t i) (he:TIok P e j) (hu:i.und = .slice e ∨ ∃ n,i.und = .arr n e) (M:Mem mt g H w.heap) (hx:SVR g w.heap x X) (hy:SVR g w.heap y Y)
  (h:(idxM i.und j.size x y).eval base H fp = some (v,H',fp')):Gives P g H H' w v (Instr.indexAt t X Y):=by
 unfold idxM at h
 split at h
 ·rename_i kz z
  obtain rfl:Y = _:=hy
  split at h
  · -- a row
   rename_i e' q l hsl
   obtain rfl:e' = e:=by rcases hu with hu | ⟨n,hu⟩ <;> rw [hsl] at hu <;> cases hu;rfl
   cases hb:Nat.beq q.size j.size with
   | false=>rw [hb] at h;exact (fail_eval h).elim
   | true =>
    rw [hb] at h
    rcases cond_eval h with ⟨hr,h⟩ | ⟨_,h⟩
    ·obtain ⟨z0,z1⟩:=inRange_spec hr
     obtain ⟨A,c,hv,hc,hrow⟩:=(hx:Rd g.ro w.heap (.row q) l [X])
     simp only [List.cons.injEq,and_true] at hv
     subst hv
     obtain ⟨b,o,cs,ty,fz,us,rest,h1,h2,h3,h4,h5⟩:=hrow (by rintro rfl;simp at z1;omega)
     refine gives_ret h (idx_run ht he hsl ⟨z0,z1⟩ h1) ⟨b,o,cs,ty,fz,us,rest,?_,h2,h3,h4,h5,by omega⟩
     rw [beq_eq hb,Nat.add_zero]
    ·exact (fail_eval h).elim
  · -- a row of the call's own
   rename_i e' n hsl
   obtain rfl:e' = e:=by rcases hu with hu | ⟨n,hu⟩ <;> rw [hsl] at hu <;> cases hu;rfl
   obtain ⟨Q,hQ,rfl⟩:=(hx:VR g w.heap (.own n) X)
   obtain ⟨o,ho,h⟩:=get_eval h
   obtain ⟨Q',hQ',hO⟩:=M.obj n o ho
   rw [hQ] at hQ'
   cases hQ'
   have fin:∀ {q:Ty} {l:List q.T} {fp:FP},ArrR g w.heap Q q l→(Bool.casesOn (Nat.beq q.size j.size) .fail (.cond (inRange z l.length) (ret (.eptr n z.toNat 0)) .fail):MA SV).eval base H fp = some (v,H',fp')→Gives P g H H' w v (Instr.indexAt e' (.slice Q.base Q.len Q.cap) (.int kz z))→True:=fun _ _ _=>trivial
   split at h
   ·rename_i q l
    cases hb:Nat.beq q.size j.size with
    | false=>rw [hb] at h;exact (fail_eval h).elim
    | true =>
     rw [hb] at h
     rcases cond_eval h with ⟨hr,h⟩ | ⟨_,h⟩
     ·obtain ⟨z0,z1⟩:=inRange_spec hr
      obtain ⟨b,b1,b2,b3⟩:=eptr_of (b:=0) hQ (hO:ArrR g w.heap Q q l) (k:=z.toNat) (by omega) (beq_eq hb)
      refine gives_ret h (idx_run ht he hsl ⟨z0,by have:=(hO:ArrR g w.heap Q q l).1;omega⟩ b2) ?_
      rw [Nat.zero_add];exact b3
     ·exact (fail_eval h).elim
   ·rename_i q l
    cases hb:Nat.beq q.size j.size with
    | false=>rw [hb] at h;exact (fail_eval h).elim
    | true =>
     rw [hb] at h
     rcases cond_eval h with ⟨hr,h⟩ | ⟨_,h⟩
     ·obtain ⟨z0,z1⟩:=inRange_spec hr
      obtain ⟨b,b1,b2,b3⟩:=eptr_of (b:=0) hQ (hO:ArrR g w.heap Q q l) (k:=z.toNat) (by omega) (beq_eq hb)
      refine gives_ret h (idx_run ht he hsl ⟨z0,by have:=(hO:ArrR g w.heap Q q l).1;omega⟩ b2) ?_
      rw [Nat.zero_add];exact b3
     ·exact (fail_eval h).elim
   ·exact (fail_eval h).elim
  · -- a part of one
   rename_i e' n lo hi hsl
   obtain rfl:e' = e:=by rcases hu with hu | ⟨n,hu⟩ <;> rw [hsl] at hu <;> cases hu;rfl
   obtain ⟨Q,A,c,hQ,hlo,hhi,hcap,rfl,hA⟩:=(hx:VR g w.heap (.sub n lo hi) X)
   obtain ⟨o,ho,h⟩:=get_eval h
   obtain ⟨Q',hQ',hO⟩:=M.obj n o ho
   rw [hQ] at hQ'
   cases hQ'
   split at h
   ·rename_i q l
    cases hb:Nat.beq q.size j.size with
    | false=>rw [hb] at h;exact (fail_eval h).elim
    | true =>
     rw [hb] at h
     rcases cond_eval h with ⟨hr,h⟩ | ⟨_,h⟩
     ·obtain ⟨z0,z1⟩:=inRange_spec hr
      obtain ⟨b,hb1,hb2⟩:=hA (by omega)
      have hO':ArrR g w.heap Q q l:=hO
      refine gives_ret h (idx_run ht he hsl ⟨z0,z1⟩ hb2) ⟨Q,b,hQ,hb1,by omega,?_⟩
      have hqs:Q.size = j.size:=by rw [hO'.2.1];exact beq_eq hb
      rw [hqs,Nat.add_mul,Nat.add_zero]
     ·exact (fail_eval h).elim
   ·rename_i q l
    cases hb:Nat.beq q.size j.size with
    | false=>rw [hb] at h;exact (fail_eval h).elim
    | true =>
     rw [hb] at h
     rcases cond_eval h with ⟨hr,h⟩ | ⟨_,h⟩
     ·obtain ⟨z0,z1⟩:=inRange_spec hr
      obtain ⟨b,hb1,hb2⟩:=hA (by omega)
      have hO':ArrR g w.heap Q q l:=hO
      refine gives_ret h (idx_run ht he hsl ⟨z0,z1⟩ hb2) ⟨Q,b,hQ,hb1,by omega,?_⟩
      have hqs:Q.size = j.size:=by rw [hO'.2.1];exact beq_eq hb
      rw [hqs,Nat.add_mul,Nat.add_zero]
     ·exact (fail_eval h).elim
   ·exact (fail_eval h).elim
  · -- an array in a box
   rename_i len e' n off harr
   obtain rfl:e' = e:=by rcases hu with hu | ⟨n,hu⟩ <;> rw [harr] at hu <;> cases hu;rfl
   obtain ⟨Q,b,hQ,hb,rfl⟩:=(hx:VR g w.heap (.ptr n off) X)
   rcases cond_eval h with ⟨hr,h⟩ | ⟨_,h⟩
   ·obtain ⟨z0,z1⟩:=inRange_spec hr
    obtain ⟨d,hd,hu2⟩:=und_run ht
    rw [harr] at hu2
    cases d <;> first | (cases hu2;done) | (injection hu2 with hu2 hu3;subst hu2 hu3)
    have hadd:∀ q,(⟨b,off,none⟩:Addr).add q = ⟨b,off + q,none⟩:=fun q=>by unfold Addr.add;split <;> first | (subst_vars;rfl) | rfl
    refine gives_ret h (V:=.pointer (some ⟨b,off + z.toNat * j.size,none⟩)) ?_ ⟨Q,b,hQ,hb,by omega,by rw [Nat.add_zero]⟩
    simp only [Instr.indexAt,asIntOf,Instr.sureAddr,Sem.run_bind,Sem.run_pure,Result.andThen_ok,run_underlying hd,z0,z1,and_self,if_true,sizeOf_run he,hadd]
   ·exact (fail_eval h).elim
  ·exact (fail_eval h).elim
 ·exact (fail_eval h).elim
end
end Go.Proofs.YthdgahpomhnidaaGreat.Mx
/- The interpreter's operations on addresses,lengths,cuts and arrays do what the model's do (own work). -/
namespace Go.Proofs.YthdgahpomhnidaaGreat.Mx
open Go
set_option autoImplicit false
set_option linter.unusedVariables false
set_option linter.unusedSimpArgs false
variable {P:Program}
section
variable {mt:Nat→Prop} {g:Gh} {H H':HF} {w:World} {base:Nat} {fp fp':FP} {v:SV}
theorem addr_add (b o q:Nat):(⟨b,o,none⟩:Addr).add q = ⟨b,o + q,none⟩:=by unfold Addr.add;split <;> first | (subst_vars;rfl) | rfl
theorem fields_of {t:Nat} {i:TI} {fs:List (Nat×Nat)} (ht:TIok P t i) (hu:i.und = .struct fs):∃ a:Array Field,P.underlying t = some (.struct a)∧a.toList.map (fun f=>(f.offset,f.type)) = fs:=by
 obtain ⟨d,hd,hu2⟩:=und_run ht
 rw [hu] at hu2
 cases d <;> first | (cases hu2;done) | (injection hu2 with hu2;subst hu2)
 exact ⟨_,hd,rfl⟩
theorem nthF_nth:∀ (l:List (Nat×Nat)) (n:Nat) (x:Nat×Nat),nthF l n = some x→l[n]? = some x
 | [],_,_,h=>by simp [nthF] at h
 | y :: _,0,x,h=>by simpa [nthF] using h
 | _ :: r,n + 1,x,h=>by simpa using nthF_nth r n x h
theorem field_of {t f off ft:Nat} {i:TI} {fs:List (Nat×Nat)} (ht:TIok P t i) (hu:i.und = .struct fs) (h:nthF fs f = some (off,ft)) :
  ∃ (a:Array Field) (x:Field),P.underlying t = some (.struct a)∧a[f]? = some x∧x.offset = off∧x.type = ft:=by
 obtain ⟨a,h1,h2⟩:=fields_of ht hu
 have:=nthF_nth fs f _ h
 rw [← h2,List.getElem?_map] at this
 cases hx:a.toList[f]? with
 | none=>rw [hx] at this;cases this
 | some x =>
  rw [hx] at this
  simp only [Option.map_some,Option.some.injEq,Prod.mk.injEq] at this
  exact ⟨a,x,h1,by simpa using hx,this.1,this.2⟩
theorem fieldPlace_run {j:TI} {x:Field} {b o:Nat} (hj:TIok P x.type j) (hs:Nat.beq j.size 0 = false):(fieldPlace ⟨b,o,none⟩ x).run P w = .ok ⟨b,o + x.offset,none⟩ w:=by
 have hz:¬ j.size = 0:=fun e=>by rw [e] at hs;cases hs
 simp only [fieldPlace,Sem.run_bind,sizeOf_run hj,Result.andThen_ok,hz,if_false,Sem.run_pure,addr_add]
theorem field_does {t f off ft:Nat} {i j:TI} {fs:List (Nat×Nat)} {x:SV} {X:Value} (ht:TIok P t i) (hu:i.und = .struct fs) (hf:nthF fs f = some (off,ft)) (hj:TIok P ft j) (hs:Nat.beq j.size 0 = false) (hx:SVR g w.heap x X)
  (h:(fieldM off x).eval base H fp = some (v,H',fp')):Gives P g H H' w v (Instr.fieldAt t X f):=by
 obtain ⟨a,y,h1,h2,h3,h4⟩:=field_of ht hu hf
 subst h3 h4
 have run:∀ b o,(Instr.fieldAt t (.pointer (some ⟨b,o,none⟩)) f).run P w = .ok (.pointer (some ⟨b,o + y.offset,none⟩)) w:=fun b o=>by
  simp only [Instr.fieldAt,Instr.sureAddr,Sem.run_bind,run_underlying h1,Result.andThen_ok,h2,Sem.run_pure,fieldPlace_run hj hs]
 unfold fieldM at h
 split at h
 ·obtain ⟨Q,b,hQ,hb,rfl⟩:=(hx:VR g w.heap (.ptr _ _) X)
  exact gives_ret h (run _ _) ⟨Q,b,hQ,hb,rfl⟩
 ·obtain ⟨Q,b,hQ,hb,hk,rfl⟩:=(hx:VR g w.heap (.eptr _ _ _) X)
  exact gives_ret h (run _ _) ⟨Q,b,hQ,hb,hk,by rw [Nat.add_assoc]⟩
 ·obtain ⟨Q,b,hQ,hb,hk,rfl⟩:=(hx:VR g w.heap (.aptr _ _ _ _ _ _) X)
  exact gives_ret h (run _ _) ⟨Q,b,hQ,hb,hk,by rw [Nat.add_assoc]⟩
 ·obtain ⟨b,o,cs,ty,fz,us,rest,rfl,k1,k2,k3,k4,k5⟩:=(hx:VR g w.heap (.rptr _ _ _ _) X)
  exact gives_ret h (run _ _) ⟨b,o,cs,ty,fz,us,rest,by rw [Nat.add_assoc],k1,k2,k3,k4,k5⟩
 ·exact (fail_eval h).elim
theorem part_run {t:Nat} {j:TI} {cs l:List CV} {vs:List Value} {A:AV} {off:Nat} (hj:TIok P t j) (hc:All2 (VR g w.heap) cs vs) (hl:cutCs cs off j.size = some l) (hA:mkAV j.agg l = some A) :
  ∃ V,(part t vs.toArray off).run P w = .ok V w∧AVR g w.heap A V:=by
 obtain ⟨h1,h2⟩:=cut_VR hc hl
 obtain ⟨h3,h4⟩:=mkAV_cells hA h1
 simp only [part,Sem.run_bind,isAgg_run hj,Result.andThen_ok]
 cases ha:j.agg with
 | true =>
  refine ⟨_,?_,h3 ha⟩
  simp only [if_true,Sem.run_bind,sizeOf_run hj,Result.andThen_ok,Sem.run_pure]
  congr 2
  apply Array.ext'
  rw [Array.toList_extract,List.extract_eq_take_drop]
  simp only [Nat.add_sub_cancel_left]
 | false =>
  obtain ⟨y,h5,h6⟩:=h4 ha
  refine ⟨y,?_,h6⟩
  have:vs[off]? = some y:=by
   have:=nth_cut (l:=vs) (k:=off) (n:=j.size) (j:=0) (x:=y) (by rw [h5];rfl)
   simpa using this
  have h':(vs.toArray)[off]? = some y:=by simpa using this
  simp only [Bool.false_eq_true,if_false,h',Sem.run_pure]
theorem fieldv_does {t f off ft:Nat} {i j:TI} {fs:List (Nat×Nat)} {cs l:List CV} {X:Value} (ht:TIok P t i) (hu:i.und = .struct fs) (hf:nthF fs f = some (off,ft)) (hj:TIok P ft j) (hx:SVR g w.heap (.v (.agg cs)) X)
  (hl:cutCs cs off j.size = some l) (h:(svO (mkAV j.agg l)).eval base H fp = some (v,H',fp')):Gives P g H H' w v (Instr.field t X f):=by
 obtain ⟨a,y,h1,h2,h3,h4⟩:=field_of ht hu hf
 subst h3 h4
 obtain ⟨A,hA,rfl,rfl⟩:=svO_eval h
 obtain ⟨vs,rfl,hv⟩:=(hx:AVR g w.heap (.agg cs) X)
 obtain ⟨V,e1,e2⟩:=part_run hj hv hl hA
 exact ⟨V,by simp only [Instr.field,Sem.run_bind,run_underlying h1,Result.andThen_ok,h2,asAgg,Sem.run_pure,e1],e2,rfl⟩
theorem nilCheck_does {x:SV} {X:Value} {s:Sem Next} (hx:SVR g w.heap x X) (hs:∀ a,X = .pointer (some a)→s = pure (.value X)) (h:(nilCheckM x).eval base H fp = some (v,H',fp')):∃ V,s.run P w = .ok (.value V) w∧SVR g w.heap v V∧H' = H:=by
 unfold nilCheckM at h
 split at h
 all_goals first | exact (fail_eval h).elim | skip
 all_goals
  obtain ⟨rfl,rfl⟩:=ret_eval h
  refine ⟨X,?_,hx,rfl⟩
 ·obtain ⟨Q,b,hQ,hb,rfl⟩:=(hx:VR g w.heap (.ptr _ _) X);rw [hs _ rfl];rfl
 ·obtain ⟨Q,b,hQ,hb,hk,rfl⟩:=(hx:VR g w.heap (.eptr _ _ _) X);rw [hs _ rfl];rfl
 ·obtain ⟨b,o,cs,ty,fz,us,rest,rfl,_⟩:=(hx:VR g w.heap (.rptr _ _ _ _) X);rw [hs _ rfl];rfl
 ·obtain ⟨Q,b,hQ,hb,hk,rfl⟩:=(hx:VR g w.heap (.aptr _ _ _ _ _ _) X);rw [hs _ rfl];rfl
theorem nthA_nth:∀ (l:List AV) (n:Nat) (x:AV),nthA l n = some x→l[n]? = some x
 | [],_,_,h=>by simp [nthA] at h
 | y :: _,0,x,h=>by simpa [nthA] using h
 | _ :: r,n + 1,x,h=>by simpa using nthA_nth r n x h
theorem tup_does {k:Nat} {x:SV} {X:Value} (hx:SVR g w.heap x X) (h:(tupM k x).eval base H fp = some (v,H',fp')):Gives P g H H' w v (Instr.extract X k):=by
 unfold tupM at h
 split at h
 ·rename_i l
  obtain ⟨vs,rfl,hv⟩:=(hx:SVR g w.heap (.tup l) X)
  split at h
  ·rename_i a ha
   simp only [MA.eval,Option.some.injEq,Prod.mk.injEq] at h
   obtain ⟨rfl,rfl,_⟩:=h
   obtain ⟨y,h1,h2⟩:=All2.get k hv (nthA_nth l k a ha)
   have h':(vs.toArray)[k]? = some y:=by simpa using h1
   exact ⟨y,by simp only [Instr.extract,h',Sem.run_pure],h2,rfl⟩
  ·exact (fail_eval h).elim
 ·exact (fail_eval h).elim
theorem len_does {t ty:Nat} {i:TI} {x:SV} {X:Value} (ht:TIok P t i) (M:Mem mt g H w.heap) (hx:SVR g w.heap x X) (h:(lenM i.und x).eval base H fp = some (v,H',fp')):Gives P g H H' w v (Builtin.len_ #[t] ty #[X]):=by
 obtain ⟨d,hd,hu⟩:=und_run ht
 unfold lenM at h
 split at h
 ·rename_i e he
  rw [he] at hu
  cases d <;> first | (cases hu;done) | skip
  have sl:∀ A n c,(Builtin.len_ #[t] ty #[.slice A n c]).run P w = .ok (.int .i64 n) w:=fun A n c=>by
   simp [Builtin.len_,run_underlying hd,goInt]
  split at h
  ·rename_i q l
   obtain ⟨A,c,hv,hc,hrow⟩:=(hx:Rd g.ro w.heap (.row q) l [X])
   simp only [List.cons.injEq,and_true] at hv
   subst hv
   exact gives_ret h (sl _ _ _) rfl
  ·rename_i n
   obtain ⟨Q,hQ,rfl⟩:=(hx:VR g w.heap (.own n) X)
   obtain ⟨o,ho,h⟩:=get_eval h
   obtain ⟨Q',hQ',hO⟩:=M.obj n o ho
   rw [hQ] at hQ'
   cases hQ'
   split at h
   ·rename_i q l
    have hO':ArrR g w.heap Q q l:=hO
    exact gives_ret h (sl _ _ _) (by rw [hO'.1];rfl)
   ·rename_i q l
    have hO':ArrR g w.heap Q q l:=hO
    exact gives_ret h (sl _ _ _) (by rw [hO'.1];rfl)
   ·exact (fail_eval h).elim
  ·obtain ⟨Q,A,c,hQ,hlo,hhi,hcap,rfl,hA⟩:=(hx:VR g w.heap (.sub _ _ _) X)
   exact gives_ret h (sl _ _ _) rfl
  ·obtain rfl:X = _:=hx
   exact gives_ret h (sl _ _ _) rfl
  ·exact (fail_eval h).elim
 ·rename_i he
  rw [he] at hu
  cases d <;> first | (cases hu;done) | skip
  split at h
  ·obtain rfl:X = _:=hx
   exact gives_ret h (by simp [Builtin.len_,run_underlying hd,goInt]) rfl
  ·exact (fail_eval h).elim
 ·rename_i n e he
  rw [he] at hu
  cases d <;> first | (cases hu;done) | (injection hu with hu hu3;subst hu)
  exact gives_ret h (V:=.int .i64 _) (by simp [Builtin.len_,run_underlying hd,goInt]) rfl
 ·exact (fail_eval h).elim
theorem min2_run (k k':IntKind) (a b:Int):(Builtin.min2 (.int k a) (.int k' b)).run P w = .ok (.int k (minI a b)) w:=by simp [Builtin.min2,minI]
theorem max2_run (k k':IntKind) (a b:Int):(Builtin.max2 (.int k a) (.int k' b)).run P w = .ok (.int k (maxI a b)) w:=by simp [Builtin.max2,maxI]
theorem foldM_does {f:Int→Int→Int} {F:Value→Value→Sem Value} (hF:∀ k k' a b,(F (.int k a) (.int k' b)).run P w = .ok (.int k (f a b)) w):∀ (l:List SV) (vs:List Value) (k:IntKind) (a:Int),All2 (SVR g w.heap) l vs→(foldM f k a l).eval base H fp = some (v,H',fp') →
  ∃ V,(vs.foldlM F (.int k a)).run P w = .ok V w∧SVR g w.heap v V∧H' = H
 | [],[],k,a,_,h=>by
  obtain ⟨rfl,rfl⟩:=ret_eval h
  exact ⟨_,by simp [List.foldlM],rfl,rfl⟩
 | x :: l,y :: vs,k,a,⟨hx,hl⟩,h=>by
  unfold foldM at h
  split at h
  ·rename_i heq;cases heq
  ·rename_i k' b r heq
   cases heq
   split at h
   ·obtain rfl:y = _:=hx
    obtain ⟨V,h1,h2⟩:=foldM_does hF l vs k (f a b) hl h
    exact ⟨V,by simp only [List.foldlM_cons,Sem.run_bind,hF,Result.andThen_ok,h1],h2⟩
   ·exact (fail_eval h).elim
  ·exact (fail_eval h).elim
 | [],_ :: _,_,_,h,_=>h.elim
 | _ :: _,[],_,_,h,_=>h.elim
theorem min_does {l:List SV} {vs:List Value} {ts:Array Nat} {ty:Nat} (hl:All2 (SVR g w.heap) l vs) (h:(minmaxM minI l).eval base H fp = some (v,H',fp')):Gives P g H H' w v (Builtin.min_ ts ty vs.toArray):=by
 unfold minmaxM at h
 split at h
 ·rename_i k a r
  match vs,hl with
  | y :: vs,⟨hy,hl⟩ =>
   obtain rfl:y = _:=hy
   obtain ⟨V,h1,h2⟩:=foldM_does (F:=Builtin.min2) (fun _ _ _ _=>min2_run _ _ _ _) r vs k a hl h
   exact ⟨V,by simp only [Builtin.min_];exact h1,h2⟩
 ·exact (fail_eval h).elim
theorem max_does {l:List SV} {vs:List Value} {ts:Array Nat} {ty:Nat} (hl:All2 (SVR g w.heap) l vs) (h:(minmaxM maxI l).eval base H fp = some (v,H',fp')):Gives P g H H' w v (Builtin.max_ ts ty vs.toArray):=by
 unfold minmaxM at h
 split at h
 ·rename_i k a r
  match vs,hl with
  | y :: vs,⟨hy,hl⟩ =>
   obtain rfl:y = _:=hy
   obtain ⟨V,h1,h2⟩:=foldM_does (F:=Builtin.max2) (fun _ _ _ _=>max2_run _ _ _ _) r vs k a hl h
   exact ⟨V,by simp only [Builtin.max_];exact h1,h2⟩
 ·exact (fail_eval h).elim
theorem cpx_does {l:List SV} {vs:List Value} {ts:Array Nat} {ty:Nat} (hl:All2 (SVR g w.heap) l vs) (h:(cpxM l).eval base H fp = some (v,H',fp')):Gives P g H H' w v (Builtin.complex_ ts ty vs.toArray):=by
 unfold cpxM at h
 split at h
 ·rename_i a b
  match vs,hl with
  | [x,y],⟨hx,hy,_⟩ =>
   obtain ⟨p,rfl,hp⟩:=(hx:VR g w.heap (.fint a) x)
   obtain ⟨q,rfl,hq⟩:=(hy:VR g w.heap (.fint b) y)
   exact gives_ret h (run_complex (P:=P) w ts ty .f64 p q) ⟨p,q,rfl,hp,hq⟩
 ·exact (fail_eval h).elim
theorem real_does {l:List SV} {vs:List Value} {ts:Array Nat} {ty:Nat} (hl:All2 (SVR g w.heap) l vs) (h:(realM l).eval base H fp = some (v,H',fp')):Gives P g H H' w v (Builtin.real_ ts ty vs.toArray):=by
 unfold realM at h
 split at h
 ·rename_i a b
  match vs,hl with
  | [x],⟨hx,_⟩ =>
   obtain ⟨p,q,rfl,hp,hq⟩:=(hx:VR g w.heap (.cint a b) x)
   exact gives_ret h (run_real (P:=P) w ts ty .f64 p q) ⟨p,rfl,hp⟩
 ·exact (fail_eval h).elim
theorem imag_does {l:List SV} {vs:List Value} {ts:Array Nat} {ty:Nat} (hl:All2 (SVR g w.heap) l vs) (h:(imagM l).eval base H fp = some (v,H',fp')):Gives P g H H' w v (Builtin.imag_ ts ty vs.toArray):=by
 unfold imagM at h
 split at h
 ·rename_i a b
  match vs,hl with
  | [x],⟨hx,_⟩ =>
   obtain ⟨p,q,rfl,hp,hq⟩:=(hx:VR g w.heap (.cint a b) x)
   exact gives_ret h (run_imag (P:=P) w ts ty .f64 p q) ⟨q,rfl,hq⟩
 ·exact (fail_eval h).elim
theorem bnd_spec {d:Int} {x:Option SV} {X:Option Value} {a:Int} (hX:match x,X with | none,none=>True | some y,some Y=>SVR g w.heap y Y | _,_=>False) (h:bnd d x = some a) :
  (x = none∧X = none∧a = d) ∨ ∃ k,X = some (.int k a):=by
 unfold bnd at h
 split at h
 ·simp only [Option.some.injEq] at h
  cases X with
  | none=>exact .inl ⟨rfl,rfl,h.symm⟩
  | some _=>exact hX.elim
 ·simp only [Option.some.injEq] at h
  subst h
  cases X with
  | none=>exact hX.elim
  | some Y=>exact .inr ⟨_,by rw [show Y = _ from hX]⟩
 ·cases h
theorem slice_run {t e:Nat} {i j:TI} {A:Option Addr} {len cap:Nat} {X1 X2:Option Value} {a b:Int} (ht:TIok P t i) (hu:i.und = .slice e) (he:TIok P e j) (hab:0 ≤ a∧a ≤ b∧b ≤ len) (hc:len ≤ cap)
  (h1:(X1 = none∧a = 0) ∨ ∃ k,X1 = some (.int k a)) (h2:(X2 = none∧b = len) ∨ ∃ k,X2 = some (.int k b)) :
  (Instr.sliceAt t (.slice A len cap) X1 X2 none).run P w = .ok (sliced A a.toNat b.toNat cap j.size) w:=by
 obtain ⟨d,hd,hu2⟩:=und_run ht
 rw [hu] at hu2
 cases d <;> first | (cases hu2;done) | (injection hu2 with hu2;subst hu2)
 have hsz:=sizeOf_run he w
 have sb:∀ (k:IntKind) (z:Int) (y:Nat) (c:BoundsCode),0 ≤ z→z ≤ y→(Instr.sliceBound (.int k z) y c).run P w = .ok z.toNat w:=fun k z y c h0 h1=>run_sliceBound w k z y c h0 h1
 obtain ⟨a0,ab,bl⟩:=hab
 have eb:(b.toNat:Int) = b:=Int.toNat_of_nonneg (by omega)
 rcases h1 with ⟨rfl,rfl⟩ | ⟨k1,rfl⟩ <;> rcases h2 with ⟨rfl,rfl⟩ | ⟨k2,rfl⟩
 ·simp only [Instr.sliceAt,Instr.slice,Sem.run_bind,run_underlying hd,Result.andThen_ok,Instr.sliceBounds,Sem.run_pure,hsz,sliced,Int.toNat_zero,Int.toNat_natCast]
 ·simp only [Instr.sliceAt,Instr.slice,Sem.run_bind,run_underlying hd,Result.andThen_ok,Instr.sliceBounds,Sem.run_pure,hsz,sliced,Int.toNat_zero,if_true,sb k2 b cap _ (by omega) (by omega)]
 ·simp only [Instr.sliceAt,Instr.slice,Sem.run_bind,run_underlying hd,Result.andThen_ok,Instr.sliceBounds,Sem.run_pure,hsz,sliced,Int.toNat_natCast,Option.isSome_none,Bool.false_eq_true,if_false,sb k1 a len _ a0 (by omega)]
 ·simp only [Instr.sliceAt,Instr.slice,Sem.run_bind,run_underlying hd,Result.andThen_ok,Instr.sliceBounds,Sem.run_pure,hsz,sliced,Option.isSome_none,Bool.false_eq_true,if_false,if_true,sb k2 b cap _ (by omega) (by omega),sb k1 a b.toNat _ a0 (by omega)]
theorem slice_does {t e:Nat} {i j:TI} {x:SV} {X:Value} {lo hi:Option SV} {X1 X2:Option Value} (ht:TIok P t i) (hu:i.und = .slice e) (he:TIok P e j) (M:Mem mt g H w.heap) (hx:SVR g w.heap x X)
  (h1:match lo,X1 with | none,none=>True | some y,some Y=>SVR g w.heap y Y | _,_=>False) (h2:match hi,X2 with | none,none=>True | some y,some Y=>SVR g w.heap y Y | _,_=>False)
  (h:(sliceM j.size x lo hi).eval base H fp = some (v,H',fp')):Gives P g H H' w v (Instr.sliceAt t X X1 X2 none):=by
 have b1:∀ {a:Int},bnd 0 lo = some a→(X1 = none∧a = 0) ∨ ∃ k,X1 = some (.int k a):=fun ha=>(bnd_spec h1 ha).imp (fun q=>⟨q.2.1,q.2.2⟩) id
 have b2:∀ {a d:Int},bnd d hi = some a→(X2 = none∧a = d) ∨ ∃ k,X2 = some (.int k a):=fun ha=>(bnd_spec h2 ha).imp (fun q=>⟨q.2.1,q.2.2⟩) id
 unfold sliceM at h
 split at h
 ·rename_i q l
  obtain ⟨A,c,hv,hc,hrow⟩:=(hx:Rd g.ro w.heap (.row q) l [X])
  simp only [List.cons.injEq,and_true] at hv
  subst hv
  split at h
  ·rename_i a b ha hb
   cases hq:Nat.beq q.size j.size with
   | false=>rw [hq] at h;exact (fail_eval h).elim
   | true =>
    rw [hq] at h
    rcases cond_eval h with ⟨hr,h⟩ | ⟨_,h⟩
    ·simp only [decide_eq_true_eq] at hr
     refine gives_ret h (slice_run ht hu he hr hc (b1 ha) (b2 hb)) ?_
     obtain ⟨a0,ab,bl⟩:=hr
     have hlen:((l.take b.toNat).drop a.toNat).length = b.toNat - a.toNat:=by rw [List.length_drop,List.length_take];omega
     refine ⟨if c = a.toNat then A else A.map (·.add (a.toNat * j.size)),c - a.toNat,?_,by rw [hlen];omega,fun hne=>?_⟩
     ·rw [hlen];rfl
     ·have hba:a.toNat < b.toNat:=by
       rcases Nat.lt_or_ge a.toNat b.toNat with h' | h'
       ·exact h'
       ·exact absurd (List.length_eq_zero_iff.1 (by rw [hlen];omega)) hne
      obtain ⟨bk,o,cs,ty,fz,us,rest,rfl,k2,k3,k4,k5⟩:=hrow (by rintro rfl;simp at bl;omega)
      have hm:¬ c = a.toNat:=by omega
      have hul:=RdL.length l us k5
      have hbl:b.toNat * q.size ≤ l.length * q.size:=Nat.mul_le_mul_right _ (by omega)
      refine ⟨bk,o + a.toNat * j.size,cs,ty,fz,(us.take (b.toNat * q.size)).drop (a.toNat * q.size),us.drop (b.toNat * q.size) ++ rest,?_,k2,k3,?_,RdL.take_drop l us a.toNat b.toNat k5 (by omega)⟩
      ·rw [if_neg hm];simp only [Option.map_some,addr_add]
      ·rw [← List.drop_drop,k4,← beq_eq hq]
       have hal:a.toNat * q.size ≤ b.toNat * q.size:=Nat.mul_le_mul_right _ (by omega)
       conv=>lhs;rw [← List.take_append_drop (b.toNat * q.size) us]
       rw [List.append_assoc,List.drop_append_of_le_length (by rw [List.length_take];omega)]
    ·exact (fail_eval h).elim
  ·exact (fail_eval h).elim
 ·rename_i n
  obtain ⟨Q,hQ,rfl⟩:=(hx:VR g w.heap (.own n) X)
  obtain ⟨o,ho,h⟩:=get_eval h
  obtain ⟨Q',hQ',hO⟩:=M.obj n o ho
  rw [hQ] at hQ'
  cases hQ'
  split at h
  ·rename_i q l
   have hO':ArrR g w.heap Q q l:=hO
   split at h
   ·rename_i a b ha hb
    cases hq:Nat.beq q.size j.size with
    | false=>rw [hq] at h;exact (fail_eval h).elim
    | true =>
     rw [hq] at h
     rcases cond_eval h with ⟨hr,h⟩ | ⟨_,h⟩
     ·simp only [decide_eq_true_eq] at hr
      obtain ⟨e1,e2,e3,e4⟩:=hO'
      refine gives_ret h (slice_run ht hu he (by omega) e3 (b1 ha) ((b2 hb).imp (fun z=>⟨z.1,by rw [z.2,e1]⟩) id)) ?_
      obtain ⟨a0,ab,bl⟩:=hr
      refine ⟨Q,_,Q.cap - a.toNat,hQ,by omega,by omega,by omega,rfl,fun hlt=>?_⟩
      cases hb:Q.blk with
      | none=>rw [hb] at e4;omega
      | some bk =>
       rw [hb] at e4
       refine ⟨bk,rfl,?_⟩
       rw [if_neg (by omega),e4.1]
       simp only [Option.map_some,addr_add,Nat.zero_add]
       rw [e2,beq_eq hq]
     ·exact (fail_eval h).elim
   ·exact (fail_eval h).elim
  ·exact (fail_eval h).elim
 ·rename_i n p r
  obtain ⟨Q,A,c,hQ,hlo,hhi,hcap,rfl,hA⟩:=(hx:VR g w.heap (.sub n p r) X)
  obtain ⟨o,ho,h⟩:=get_eval h
  obtain ⟨Q',hQ',hO⟩:=M.obj n o ho
  rw [hQ] at hQ'
  cases hQ'
  split at h
  ·rename_i q l
   have hO':ArrR g w.heap Q q l:=hO
   split at h
   ·rename_i a b ha hb
    cases hq:Nat.beq q.size j.size with
    | false=>rw [hq] at h;exact (fail_eval h).elim
    | true =>
     rw [hq] at h
     rcases cond_eval h with ⟨hr,h⟩ | ⟨_,h⟩
     ·simp only [decide_eq_true_eq] at hr
      refine gives_ret h (slice_run ht hu he hr hcap (b1 ha) (b2 hb)) ?_
      obtain ⟨a0,ab,bl⟩:=hr
      refine ⟨Q,if c = a.toNat then A else A.map (·.add (a.toNat * j.size)),c - a.toNat,hQ,by omega,by omega,by omega,?_,fun hlt=>?_⟩
      ·rw [show p + b.toNat - (p + a.toNat) = b.toNat - a.toNat by omega];rfl
      ·obtain ⟨bk,hb1,hb2⟩:=hA (by omega)
       refine ⟨bk,hb1,?_⟩
       rw [if_neg (by omega),hb2]
       simp only [Option.map_some,addr_add]
       rw [hO'.2.1,beq_eq hq,Nat.add_mul]
     ·exact (fail_eval h).elim
   ·exact (fail_eval h).elim
  ·exact (fail_eval h).elim
 ·exact (fail_eval h).elim
theorem idxv_does {t e:Nat} {i j:TI} {x y:SV} {X Y:Value} (ht:TIok P t i) (he:TIok P e j) (hu:i.und = .str ∨ ∃ n,i.und = .arr n e) (hx:SVR g w.heap x X) (hy:SVR g w.heap y Y)
  (h:(idxvM i.und j x y).eval base H fp = some (v,H',fp')):Gives P g H H' w v (Instr.index t X Y):=by
 unfold idxvM at h
 split at h
 ·rename_i kz z
  obtain rfl:Y = _:=hy
  split at h
  ·rename_i len e' cs harr
   obtain rfl:e' = e:=by rcases hu with hu | ⟨n,hu⟩ <;> rw [harr] at hu <;> cases hu;rfl
   obtain ⟨vs,rfl,hv⟩:=(hx:AVR g w.heap (.agg cs) X)
   rcases cond_eval h with ⟨hr,h⟩ | ⟨_,h⟩
   ·obtain ⟨z0,z1⟩:=inRange_spec hr
    obtain ⟨d,hd,hu2⟩:=und_run ht
    rw [harr] at hu2
    cases d <;> first | (cases hu2;done) | (obtain ⟨rfl,rfl⟩:len = _∧e' = _:=by (injection hu2 with a b;exact ⟨a.symm,b.symm⟩))
    split at h
    ·rename_i r hsel
     obtain ⟨A,hA,rfl,rfl⟩:=svO_eval h
     obtain ⟨s1,s2⟩:=selN_nth (by omega) j.size 0 r hsel
     have hall:∀ q c,r[q]? = some c→∃ u,(vs.drop (z.toNat * j.size))[q]? = some u∧VR g w.heap c u:=fun q c hc=>by
      have:=s2 q c hc
      rw [Nat.add_zero] at this
      obtain ⟨u,hu1,hu2⟩:=All2.get _ hv this
      exact ⟨u,by rw [List.getElem?_drop];exact hu1,hu2⟩
     have hlen:j.size ≤ (vs.drop (z.toNat * j.size)).length:=by
      rcases Nat.eq_zero_or_pos j.size with h0 | h0
      ·omega
      ·obtain ⟨u,hu,_⟩:=hall (j.size - 1) _ (List.getElem?_eq_getElem (by omega))
       have:=(List.getElem?_eq_some_iff.1 hu).1
       omega
     have h5:All2 (VR g w.heap) r ((vs.drop (z.toNat * j.size)).take j.size):=by
      refine All2.of_nth _ _ (fun q c hc=>?_) (by rw [List.length_take];omega)
      obtain ⟨u,hu,hv'⟩:=hall q c hc
      have hq:q < j.size:=by have:=(List.getElem?_eq_some_iff.1 hc).1;omega
      exact ⟨u,by rw [List.getElem?_take,if_pos hq];exact hu,hv'⟩
     obtain ⟨h3,h4⟩:=mkAV_cells hA h5
     have run:∀ V,(part e' vs.toArray (z.toNat * j.size)).run P w = .ok V w→(Instr.index t (.agg vs.toArray) (.int kz z)).run P w = .ok V w:=fun V hV=>by
      simp only [Instr.index,asIntOf,Sem.run_bind,Sem.run_pure,Result.andThen_ok,run_underlying hd,z0,z1,and_self,if_true,sizeOf_run he,hV]
     cases ha:j.agg with
     | true =>
      refine ⟨_,run _ ?_,h3 ha,rfl⟩
      simp only [part,Sem.run_bind,isAgg_run he,Result.andThen_ok,ha,if_true,sizeOf_run he,Sem.run_pure]
      congr 2
      apply Array.ext'
      rw [Array.toList_extract,List.extract_eq_take_drop]
      simp only [Nat.add_sub_cancel_left]
     | false =>
      obtain ⟨u,h6,h7⟩:=h4 ha
      refine ⟨u,run _ ?_,h7,rfl⟩
      have:vs[z.toNat * j.size]? = some u:=by
       have:=nth_cut (l:=vs) (k:=z.toNat * j.size) (n:=j.size) (j:=0) (x:=u) (by rw [h6];rfl)
       simpa using this
      have h':(vs.toArray)[z.toNat * j.size]? = some u:=by simpa using this
      simp only [part,Sem.run_bind,isAgg_run he,Result.andThen_ok,ha,Bool.false_eq_true,if_false,h',Sem.run_pure]
    ·exact (fail_eval h).elim
   ·exact (fail_eval h).elim
  ·rename_i s hs
   obtain rfl:X = _:=hx
   rcases cond_eval h with ⟨hr,h⟩ | ⟨_,h⟩
   ·obtain ⟨z0,z1⟩:=inRange_spec hr
    obtain ⟨d,hd,hu2⟩:=und_run ht
    rw [hs] at hu2
    cases d <;> first | (cases hu2;done) | skip
    have hlt:z.toNat < s.size:=by omega
    have hget:s[z.toNat]? = some s[z.toNat]:=by rw [getElem?_pos]
    refine gives_ret h (V:=.int .u8 ((s.data.getD z.toNat 0).toNat:Nat)) ?_ rfl
    simp only [Instr.index,asIntOf,Sem.run_bind,Sem.run_pure,Result.andThen_ok,run_underlying hd,z0,if_true,hget]
    congr 3
    have hlt':z.toNat < s.data.size:=hlt
    have:s.data.getD z.toNat 0 = s[z.toNat]:=by
     rw [Array.getD_eq_getD_getElem?,Array.getElem?_eq_getElem hlt'];rfl
    rw [this]
   ·exact (fail_eval h).elim
  ·exact (fail_eval h).elim
 ·exact (fail_eval h).elim
end
end Go.Proofs.YthdgahpomhnidaaGreat.Mx

/- The interpreter's operations do what the model's do: types,cells,loads,stores (own work). -/
import Derived.Laws.Rows
import Derived.Laws.Cells
import Derived.Laws.CopyRow
import Derived.Laws.Append
import Derived.Laws.AppendOwn
import Derived.Laws.StructEq
import Derived.Laws.BytesString
import Derived.ChangeKeysEq
import Derived.WalkKit
import Derived.Test.YthdgahpomhnidaaGreatZ2
namespace Go.Proofs.YthdgahpomhnidaaGreat.Mx
open Go
set_option autoImplicit false
set_option linter.unusedVariables false
set_option linter.unusedSimpArgs false
/-! ### types -/
def udOf:TypeDesc→UD
 | .int k=>.int k
 | .bool=>.bool
 | .string=>.str
 | .float k=>.flt k
 | .complex k=>.cpx k
 | .slice e=>.slice e
 | .array n e=>.arr n e
 | .struct fs=>.struct (fs.toList.map fun f=>(f.offset,f.type))
 | .pointer e=>.ptr e
 | .interface _=>.iface
 | .tuple _=>.tuple
 | _=>.func
def rawV:CV→Value
 | .int k n=>.int k n
 | .bool b=>.bool b
 | .str s=>.string s
 | .fint _=>.float .f64 0
 | .cint _ _=>.complex .f64 0 0
 | .nilp=>.pointer none
 | .nilf=>.nilFunc
 | .nili=>.nilIface
 | .nils=>.slice none 0 0
 | _=>undef
def plainZ:CV→Bool
 | .int _ _ | .bool _ | .str _ | .nilp | .nilf | .nili | .nils=>true
 | .fint n=>decide (n = 0)
 | .cint x y=>decide (x = 0) && decide (y = 0)
 | _=>false
def Ty.zeroV:Ty→List Value
 | .int k=>[.int k 0]
 | .bool=>[.bool false]
 | .str=>[.string ⟨#[]⟩]
 | .row _=>[.slice none 0 0]
 | .prod a b=>a.zeroV ++ b.zeroV
structure TIok (P:Program) (t:Nat) (i:TI):Prop where
 sz:(P.info? t).map (fun x=>(x.size,x.bytes)) = some (i.size,i.bytes)
 und:(P.underlying t).map udOf = some i.und
 zero:(P.info? t).map (fun x=>x.zero.map fun z=>z.cells.toList) = some (some (i.zero.map rawV))
 zok:i.zero.all plainZ = true
 zlen:i.zero.length = i.size
 ty:i.ty.map Ty.zeroV = i.ty.map (fun _=>i.zero.map rawV)
 tysz:i.ty.map Ty.size = i.ty.map (fun _=>i.size)
 flds:(match i.und with | .struct fs=>fs.all fun x=>(P.info? x.2).isSome | .arr _ e=>(P.info? e).isSome | _=>true) = true
def TIs (P:Program) (l:List (Nat×TI)):Prop:=∀ t i,tget l t = some i→TIok P t i
theorem TIs.nil (P:Program):TIs P []:=fun _ _ h=>by cases h
theorem TIs.cons {P:Program} {t:Nat} {i:TI} {l:List (Nat×TI)} (h:TIok P t i) (hl:TIs P l):TIs P ((t,i) :: l):=fun t' i' h'=>by
 by_cases e:t = t'
 ·subst e;simp only [tget,beq_self] at h';cases h';exact h
 ·simp only [tget,beq_ne e] at h';exact hl t' i' h'
theorem TIok.get {P:Program} {t:Nat} {i:TI} (h:TIok P t i):∃ x d z,P.info? t = some x∧x.size = i.size∧x.bytes = i.bytes∧x.zero = some z∧z.cells.toList = i.zero.map rawV∧P.underlying t = some d∧udOf d = i.und:=by
 have h1:=h.sz
 have h2:=h.und
 have h3:=h.zero
 cases hi:P.info? t with
 | none=>rw [hi] at h1;cases h1
 | some x =>
  rw [hi] at h1 h3
  cases hd:P.underlying t with
  | none=>rw [hd] at h2;cases h2
  | some d =>
   rw [hd] at h2
   simp only [Option.map_some,Option.some.injEq,Prod.mk.injEq] at h1 h2 h3
   cases hz:x.zero with
   | none=>rw [hz] at h3;cases h3
   | some z =>
    rw [hz] at h3
    simp only [Option.map_some,Option.some.injEq] at h3
    exact ⟨x,d,z,rfl,h1.1,h1.2,hz,h3,rfl,h2⟩
theorem zero_VR (g:Gh) (hp:HP):∀ (l:List CV),l.all plainZ = true→All2 (VR g hp) l (l.map rawV)
 | [],_=>trivial
 | c :: l,h=>by
  simp only [List.all_cons,Bool.and_eq_true] at h
  refine ⟨?_,zero_VR g hp l h.2⟩
  have h1:=h.1
  cases c with
  | fint n=>simp only [plainZ,decide_eq_true_eq] at h1;subst h1;exact ⟨0,rfl,YthdgahpomhnidaaGreatF.rep_zero⟩
  | cint x y=>simp only [plainZ,Bool.and_eq_true,decide_eq_true_eq] at h1;obtain ⟨rfl,rfl⟩:=h1;exact ⟨0,0,rfl,YthdgahpomhnidaaGreatF.rep_zero,YthdgahpomhnidaaGreatF.rep_zero⟩
  | int _ _=>rfl
  | bool _=>rfl
  | str _=>rfl
  | nilp=>rfl
  | nilf=>rfl
  | nili=>rfl
  | nils=>rfl
  | _=>simp [plainZ] at h1
theorem Rd.dflt (ro:Nat→Prop) (hp:HP):∀ e:Ty,Rd ro hp e e.dflt e.zeroV
 | .int _=>rfl
 | .bool=>rfl
 | .str=>rfl
 | .row e=>⟨none,0,rfl,Nat.le_refl _,fun h=>absurd rfl h⟩
 | .prod a b=>⟨_,_,rfl,Rd.dflt ro hp a,Rd.dflt ro hp b⟩
theorem RdL.replicate {ro:Nat→Prop} {hp:HP} {e:Ty} {x:e.T} {vs:List Value} (h:Rd ro hp e x vs):∀ n:Nat,RdL (Rd ro hp e) (List.replicate n x) (List.replicate n vs).flatten
 | 0=>rfl
 | n + 1=>⟨vs,_,by rw [List.replicate_succ,List.flatten_cons],h,RdL.replicate h n⟩
/-! ### lists that go together -/
theorem All2.length {α β:Type} {R:α→β→Prop}:∀ {l:List α} {m:List β},All2 R l m→l.length = m.length
 | [],[],_=>rfl
 | _ :: l,_ :: m,⟨_,h⟩=>by simp [All2.length h]
 | [],_ :: _,h=>h.elim
 | _ :: _,[],h=>h.elim
theorem All2.append {α β:Type} {R:α→β→Prop}:∀ {l:List α} {m:List β} {l':List α} {m':List β},All2 R l m→All2 R l' m'→All2 R (l ++ l') (m ++ m')
 | [],[],_,_,_,h=>h
 | _ :: l,_ :: m,_,_,⟨hx,h⟩,h'=>⟨hx,All2.append h h'⟩
 | [],_ :: _,_,_,h,_=>h.elim
 | _ :: _,[],_,_,h,_=>h.elim
theorem All2.drop {α β:Type} {R:α→β→Prop}:∀ (n:Nat) {l:List α} {m:List β},All2 R l m→All2 R (l.drop n) (m.drop n)
 | 0,_,_,h=>h
 | n + 1,[],[],_=>trivial
 | n + 1,_ :: l,_ :: m,⟨_,h⟩=>All2.drop n h
 | _ + 1,[],_ :: _,h=>h.elim
 | _ + 1,_ :: _,[],h=>h.elim
theorem All2.take {α β:Type} {R:α→β→Prop}:∀ (n:Nat) {l:List α} {m:List β},All2 R l m→All2 R (l.take n) (m.take n)
 | 0,_,_,h=>by simp [All2]
 | n + 1,[],[],_=>trivial
 | n + 1,_ :: l,_ :: m,⟨hx,h⟩=>⟨hx,All2.take n h⟩
 | _ + 1,[],_ :: _,h=>h.elim
 | _ + 1,_ :: _,[],h=>h.elim
theorem All2.get {α β:Type} {R:α→β→Prop}:∀ (n:Nat) {l:List α} {m:List β} {x:α},All2 R l m→l[n]? = some x→∃ y,m[n]? = some y∧R x y
 | 0,_ :: l,y :: m,x,⟨hx,_⟩,h=>by simp at h;subst h;exact ⟨y,rfl,hx⟩
 | n + 1,_ :: l,_ :: m,x,⟨_,h⟩,hn=>by simpa using All2.get n h (by simpa using hn)
 | _,[],[],_,_,h=>by simp at h
 | _,[],_ :: _,_,h,_=>h.elim
 | _,_ :: _,[],_,h,_=>h.elim
theorem cutCs_eq:∀ (cs:List CV) (off n:Nat) (l:List CV),cutCs cs off n = some l→l = (cs.drop off).take n∧off + n ≤ cs.length
 | cs,0,0,l,h=>by cases cs <;> (simp only [cutCs,Option.some.injEq] at h;subst h;simp)
 | [],0,n + 1,l,h=>by simp [cutCs] at h
 | [],o + 1,n,l,h=>by simp [cutCs] at h
 | c :: cs,0,n + 1,l,h=>by
  simp only [cutCs] at h
  cases hr:cutCs cs 0 n with
  | none=>rw [hr] at h;cases h
  | some r =>
   rw [hr] at h
   simp only [Option.map_some,Option.some.injEq] at h
   subst h
   obtain ⟨h1,h2⟩:=cutCs_eq cs 0 n r hr
   simp only [List.drop_zero] at h1 ⊢
   exact ⟨by rw [h1];rfl,by simp only [List.length_cons];omega⟩
 | c :: cs,o + 1,n,l,h=>by
  have h':cutCs cs o n = some l:=by cases n <;> exact h
  obtain ⟨h1,h2⟩:=cutCs_eq cs o n l h'
  exact ⟨by rw [h1];rfl,by simp only [List.length_cons];omega⟩
theorem cut_VR {g:Gh} {hp:HP} {cs l:List CV} {vs:List Value} {off n:Nat} (h:All2 (VR g hp) cs vs) (hc:cutCs cs off n = some l):All2 (VR g hp) l ((vs.drop off).take n)∧((vs.drop off).take n).length = n:=by
 obtain ⟨rfl,hlen⟩:=cutCs_eq cs off n l hc
 refine ⟨All2.take n (All2.drop off h),?_⟩
 have:=All2.length h
 simp only [List.length_take,List.length_drop]
 omega
theorem putCs_eq:∀ (cs:List CV) (off:Nat) (l r:List CV),putCs cs off l = some r→r = cs.take off ++ l ++ cs.drop (off + l.length)∧off + l.length ≤ cs.length
 | cs,0,[],r,h=>by cases cs <;> (simp only [putCs,Option.some.injEq] at h;subst h;simp)
 | [],0,v :: vs,r,h=>by simp [putCs] at h
 | [],o + 1,l,r,h=>by simp [putCs] at h
 | c :: cs,0,v :: vs,r,h=>by
  simp only [putCs] at h
  cases hr:putCs cs 0 vs with
  | none=>rw [hr] at h;cases h
  | some r' =>
   rw [hr] at h
   simp only [Option.map_some,Option.some.injEq] at h
   subst h
   obtain ⟨h1,h2⟩:=putCs_eq cs 0 vs r' hr
   simp only [Nat.zero_add,List.take_zero,List.nil_append] at h1 h2 ⊢
   exact ⟨by rw [h1];simp,by simp only [List.length_cons];omega⟩
 | c :: cs,o + 1,l,r,h=>by
  have h':(putCs cs o l).map (fun r=>c :: r) = some r:=by cases l <;> exact h
  cases hr:putCs cs o l with
  | none=>rw [hr] at h';cases h'
  | some r' =>
   rw [hr] at h'
   simp only [Option.map_some,Option.some.injEq] at h'
   subst h'
   obtain ⟨h1,h2⟩:=putCs_eq cs o l r' hr
   refine ⟨by rw [h1,show o + 1 + l.length = (o + l.length) + 1 by omega];simp,by simp only [List.length_cons];omega⟩
theorem put_VR {g:Gh} {hp:HP} {cs l r:List CV} {vs us:List Value} {off:Nat} (h:All2 (VR g hp) cs vs) (hl:All2 (VR g hp) l us) (hc:putCs cs off l = some r) :
  All2 (VR g hp) r (vs.take off ++ us ++ vs.drop (off + us.length))∧off + us.length ≤ vs.length:=by
 obtain ⟨rfl,hlen⟩:=putCs_eq cs off l r hc
 have h1:=All2.length h
 have h2:=All2.length hl
 rw [← h2]
 exact ⟨All2.append (All2.append (All2.take off h) hl) (All2.drop _ h),by omega⟩
/-! ### elements and cells -/
theorem Rd.enc {g:Gh} {hp:HP}:∀ (e:Ty) (x:e.T) (u:List Value) (r:List CV) (v:List Value),Rd g.ro hp e x u→All2 (VR g hp) r v→All2 (VR g hp) (e.enc x r) (u ++ v)
 | .int _,_,_,_,_,h,hr=>by rw [show _ = _ from h];exact ⟨rfl,hr⟩
 | .bool,_,_,_,_,h,hr=>by rw [show _ = _ from h];exact ⟨rfl,hr⟩
 | .str,_,_,_,_,h,hr=>by rw [show _ = _ from h];exact ⟨rfl,hr⟩
 | .row e,l,u,r,v,h,hr=>by
  have h0:=h
  obtain ⟨A,c,hu,_⟩:=h
  subst hu
  exact ⟨h0,hr⟩
 | .prod a b,x,_,r,v,⟨u1,u2,hu,h1,h2⟩,hr=>by
  rw [hu,List.append_assoc]
  exact Rd.enc a x.1 u1 _ _ h1 (Rd.enc b x.2 u2 r v h2 hr)
theorem decInt_eq {k:IntKind} {cs r:List CV} {n:Int} (h:decInt k cs = some (n,r)):cs = .int k n :: r:=by
 unfold decInt at h
 split at h
 ·split at h
  ·simp only [Option.some.injEq,Prod.mk.injEq] at h;obtain ⟨rfl,rfl⟩:=h;subst_vars;rfl
  ·cases h
 ·cases h
theorem decBool_eq {cs r:List CV} {n:Bool} (h:decBool cs = some (n,r)):cs = .bool n :: r:=by
 unfold decBool at h
 split at h
 ·simp only [Option.some.injEq,Prod.mk.injEq] at h;obtain ⟨rfl,rfl⟩:=h;rfl
 ·cases h
theorem decStr_eq {cs r:List CV} {n:ByteArray} (h:decStr cs = some (n,r)):cs = .str n :: r:=by
 unfold decStr at h
 split at h
 ·simp only [Option.some.injEq,Prod.mk.injEq] at h;obtain ⟨rfl,rfl⟩:=h;rfl
 ·cases h
theorem decRow_eq {e:Ty} {cs r:List CV} {l:List e.T} (h:decRow e cs = some (l,r)):cs = .row e l :: r ∨ (l = []∧cs = .nils :: r):=by
 unfold decRow at h
 split at h
 ·split at h
  ·rename_i e' l' r' q
   subst q
   simp only [Option.some.injEq,Prod.mk.injEq] at h;obtain ⟨rfl,rfl⟩:=h;exact .inl rfl
  ·cases h
 ·simp only [Option.some.injEq,Prod.mk.injEq] at h;obtain ⟨rfl,rfl⟩:=h;exact .inr ⟨rfl,rfl⟩
 ·cases h
theorem dec_Rd {g:Gh} {hp:HP}:∀ (e:Ty) (cs:List CV) (vs:List Value) (x:e.T) (r:List CV),All2 (VR g hp) cs vs→e.dec cs = some (x,r)→∃ u v,vs = u ++ v∧Rd g.ro hp e x u∧All2 (VR g hp) r v
 | .int k,cs,vs,x,r,h,hd=>by
  rw [decInt_eq hd] at h
  cases vs with
  | nil=>exact h.elim
  | cons v vs=>exact ⟨[v],vs,rfl,by rw [show v = _ from h.1];rfl,h.2⟩
 | .bool,cs,vs,x,r,h,hd=>by
  rw [decBool_eq hd] at h
  cases vs with
  | nil=>exact h.elim
  | cons v vs=>exact ⟨[v],vs,rfl,by rw [show v = _ from h.1];rfl,h.2⟩
 | .str,cs,vs,x,r,h,hd=>by
  rw [decStr_eq hd] at h
  cases vs with
  | nil=>exact h.elim
  | cons v vs=>exact ⟨[v],vs,rfl,by rw [show v = _ from h.1];rfl,h.2⟩
 | .row e,cs,vs,x,r,h,hd=>by
  rcases decRow_eq hd with he | ⟨hx,he⟩
  ·rw [he] at h
   cases vs with
   | nil=>exact h.elim
   | cons v vs=>exact ⟨[v],vs,rfl,h.1,h.2⟩
  ·rw [he] at h
   subst hx
   cases vs with
   | nil=>exact h.elim
   | cons v vs=>exact ⟨[v],vs,rfl,⟨none,0,by rw [show v = _ from h.1];rfl,Nat.le_refl _,fun hn=>absurd rfl hn⟩,h.2⟩
 | .prod a b,cs,vs,x,r,h,hd=>by
  simp only [Ty.dec] at hd
  cases h1:a.dec cs with
  | none=>rw [h1] at hd;cases hd
  | some p =>
   obtain ⟨x1,r1⟩:=p
   rw [h1] at hd
   simp only at hd
   cases h2:b.dec r1 with
   | none=>rw [h2] at hd;cases hd
   | some q =>
    obtain ⟨x2,r2⟩:=q
    rw [h2] at hd
    simp only [Option.some.injEq,Prod.mk.injEq] at hd
    obtain ⟨rfl,rfl⟩:=hd
    obtain ⟨u1,v1,e1,hR1,hA1⟩:=dec_Rd a cs vs x1 r1 h h1
    obtain ⟨u2,v2,e2,hR2,hA2⟩:=dec_Rd b r1 v1 x2 r2 hA1 h2
    exact ⟨u1 ++ u2,v2,by rw [e1,e2,List.append_assoc],⟨u1,u2,rfl,hR1,hR2⟩,hA2⟩
theorem decL_Rd {g:Gh} {hp:HP} {e:Ty}:∀ (n:Nat) (cs:List CV) (vs:List Value) (l:List e.T),All2 (VR g hp) cs vs→e.decL n cs = some l→RdL (Rd g.ro hp e) l vs∧l.length = n
 | 0,[],[],l,_,h=>by simp only [Ty.decL,Option.some.injEq] at h;subst h;exact ⟨rfl,rfl⟩
 | 0,[],_ :: _,l,h,_=>h.elim
 | 0,_ :: _,_,l,_,h=>by simp [Ty.decL] at h
 | n + 1,cs,vs,l,h,hd=>by
  simp only [Ty.decL] at hd
  cases h1:e.dec cs with
  | none=>rw [h1] at hd;cases hd
  | some p =>
   obtain ⟨x,r⟩:=p
   rw [h1] at hd
   simp only at hd
   cases h2:e.decL n r with
   | none=>rw [h2] at hd;cases hd
   | some l' =>
    rw [h2] at hd
    simp only [Option.some.injEq] at hd
    subst hd
    obtain ⟨u,v,e1,hR,hA⟩:=dec_Rd e cs vs x r h h1
    obtain ⟨h3,h4⟩:=decL_Rd n r v l' hA h2
    exact ⟨⟨u,v,e1,hR,h3⟩,by simp [h4]⟩
theorem VR.one {g:Gh} {hp:HP}:∀ {c:CV} {v:Value},VR g hp c v→c ≠ .dead→v.oneCell' = true
 | .int _ _,_,h,_=>by rw [show _ = _ from h];rfl
 | .bool _,_,h,_=>by rw [show _ = _ from h];rfl
 | .str _,_,h,_=>by rw [show _ = _ from h];rfl
 | .fint _,_,⟨_,h,_⟩,_=>by rw [h];rfl
 | .cint _ _,_,⟨_,_,h,_⟩,_=>by rw [h];rfl
 | .nilp,_,h,_=>by rw [show _ = _ from h];rfl
 | .nilf,_,h,_=>by rw [show _ = _ from h];rfl
 | .nili,_,h,_=>by rw [show _ = _ from h];rfl
 | .nils,_,h,_=>by rw [show _ = _ from h];rfl
 | .ptr _ _,_,⟨_,_,_,_,h⟩,_=>by rw [h];rfl
 | .eptr _ _ _,_,⟨_,_,_,_,_,h⟩,_=>by rw [h];rfl
 | .aptr _ _ _ _ _ _,_,⟨_,_,_,_,_,h⟩,_=>by rw [h];rfl
 | .own _,_,⟨_,_,h⟩,_=>by rw [h];rfl
 | .sub _ _ _,_,⟨_,_,_,_,_,_,_,h,_⟩,_=>by rw [h];rfl
 | .row _ _,v,⟨_,_,h,_⟩,_=>by simp only [List.cons.injEq,and_true] at h;rw [h];rfl
 | .rptr _ _ _ _,_,⟨_,_,_,_,_,_,_,h,_⟩,_=>by rw [h];rfl
 | .fn _ _,_,⟨_,h,_⟩,_=>by rw [h];rfl
 | .ifc _ _ _,_,h,_=>by rw [show _ = _ from h];rfl
 | .dead,_,_,h=>absurd rfl h
end Go.Proofs.YthdgahpomhnidaaGreat.Mx
/- The interpreter's operations do what the model's do: one by one (own work). -/
namespace Go.Proofs.YthdgahpomhnidaaGreat.Mx
open Go
set_option autoImplicit false
set_option linter.unusedVariables false
set_option linter.unusedSimpArgs false
variable {P:Program}
def Does (P:Program) (o:Oper) (a:Act) (w:World) (R:Value→World→Prop):Prop :=
 ∀ (next:Act→World→Prop) (Q:Exit→Act→World→Prop),(∀ V w',R V w'→next (a.put o.dst V) w')→o.wp P a w next Q
theorem Does.value {o:Oper} {a:Act} {w w':World} {R:Value→World→Prop} {V:Value} (h:(execOp a.eval o).run P w = .ok (.value V) w') (hr:R V w'):Does P o a w R:=by
 intro next Q hn
 unfold Oper.wp
 rw [h]
 exact hn V w' hr
theorem Does.skip {o:Oper} {a:Act} {w w':World} {R:Value→World→Prop} (h:(execOp a.eval o).run P w = .ok .skip w') (hr:R undef w'):Does P o a w R:=by
 intro next Q hn
 unfold Oper.wp
 rw [h]
 exact hn undef w' hr
theorem Does.enter {o:Oper} {a:Act} {w w':World} {R:Value→World→Prop} {f:FuncId} {args:Array Value} (h:(execOp a.eval o).run P w = .ok (.enter f args) w')
  (hr:Calls P f args w' fun e w2=>∃ V,e = .returned V∧R V w2):Does P o a w R:=by
 intro next Q hn
 unfold Oper.wp
 rw [h]
 refine Calls.mono hr fun e w2 h2=>?_
 obtain ⟨V,rfl,hR⟩:=h2
 exact hn V w2 hR
def Post (mt:Nat→Prop) (g:Gh) (w:World) (base:Nat) (H':HF) (v:SV) (V:Value) (w':World):Prop :=
 ∃ g',Ext mt g w g' w'∧(∀ n,¬ (base ≤ n∧n < base + keys)→g'.φ n = g.φ n)∧Mem mt g' H' w'.heap∧SVR g' w'.heap v V
theorem Post.same {mt:Nat→Prop} {g:Gh} {w:World} {base:Nat} {H:HF} {v:SV} {V:Value} (M:Mem mt g H w.heap) (h:SVR g w.heap v V):Post mt g w base H v V w :=
 ⟨g,Ext.refl _ _ _,fun _ _=>rfl,M,h⟩
theorem Post.drawn {mt:Nat→Prop} {g:Gh} {w w':World} {base:Nat} {H:HF} {v:SV} {V:Value} (h1:w'.heap = w.heap) (h2:w'.os = w.os) (h3:w'.tape = w.tape) (h4:w'.output = w.output) (M:Mem mt g H w.heap) (h:SVR g w.heap v V):Post mt g w base H v V w' :=
 ⟨g,⟨h2,h3,h4,by rw [h1];exact Nat.le_refl _,fun _ _ _=>by rw [h1],fun _ h=>h,fun _ h=>.inl h,fun _ _ h=>h⟩,fun _ _=>rfl,by rw [h1];exact M,by rw [h1];exact h⟩
def updφ (g:Gh) (n:Nat) (Q:Pl):Gh:=⟨fun m=>if m = n then some Q else g.φ m,g.ro⟩
theorem updφ_same (g:Gh) (n:Nat) (Q:Pl):(updφ g n Q).φ n = some Q:=if_pos rfl
theorem updφ_ne (g:Gh) {n m:Nat} (Q:Pl) (h:m ≠ n):(updφ g n Q).φ m = g.φ m:=if_neg h
theorem updφ_phi {g:Gh} {n:Nat} {Q:Pl} (hn:g.φ n = none):∀ m R,g.φ m = some R→(updφ g n Q).φ m = some R:=fun m R h=>by
 by_cases e:m = n
 ·subst e;rw [hn] at h;cases h
 ·rw [updφ_ne g Q e];exact h
theorem push_new (hp:HP) (o:Go.Obj):(hp.push o)[hp.size]? = some o:=by simp
theorem push_old (hp:HP) (o:Go.Obj) (k:Nat) (h:k < hp.size):(hp.push o)[k]? = hp[k]?:=by rw [Array.getElem?_push,if_neg (by omega)]
theorem Post.new {mt:Nat→Prop} {g:Gh} {w w':World} {base s:Nat} {H:HF} {v:SV} {V:Value} {o:Obj} {Q:Pl} {ob:Go.Obj} (M:Mem mt g H w.heap) (hm:∀ b,w.heap.size ≤ b→mt b)
  (hw:w'.heap = w.heap.push ob) (h2:w'.os = w.os) (h3:w'.tape = w.tape) (h4:w'.output = w.output) (hf:g.φ (base + s) = none) (hs:s < keys) (hi:o.iced = false) (hQ:Q.blk = some w.heap.size)
  (ho:ObjR (updφ g (base + s) Q) w'.heap Q o) (hv:SVR (updφ g (base + s) Q) w'.heap v V):Post mt g w base (upd H (base + s) (some o)) v V w':=by
 have hnr:¬ g.ro w.heap.size:=fun h=>absurd (M.ro _ h) (Nat.lt_irrefl _)
 refine ⟨updφ g (base + s) Q,⟨h2,h3,h4,by rw [hw];simp,fun b hb _=>by rw [hw,push_old _ _ _ hb],fun _ h=>h,fun _ h=>.inl h,updφ_phi hf⟩,fun n hn=>updφ_ne g Q (by omega),?_,hv⟩
 refine M.put (P:=Q) (updφ_same g _ Q) (updφ_phi hf) rfl hi (fun b hb=>?_) (fun c hc _=>by rw [hw,push_old _ _ _ hc]) (by rw [hw];simp) ho
 rw [hQ] at hb
 cases hb
 refine ⟨hm _ (Nat.le_refl _),hnr,fun m o' R _ hH hR hRb=>?_⟩
 obtain ⟨R',hR',hO⟩:=M.obj m o' hH
 rw [hR] at hR'
 cases hR'
 exact absurd (hO.lt _ hRb) (Nat.lt_irrefl _)
theorem Post.bare {mt:Nat→Prop} {g:Gh} {w w':World} {base s:Nat} {H:HF} {v:SV} {V:Value} {o:Obj} {Q:Pl} (M:Mem mt g H w.heap)
  (hw:w'.heap = w.heap) (h2:w'.os = w.os) (h3:w'.tape = w.tape) (h4:w'.output = w.output) (hf:g.φ (base + s) = none) (hs:s < keys) (hi:o.iced = false) (hQ:Q.blk = none)
  (ho:ObjR (updφ g (base + s) Q) w'.heap Q o) (hv:SVR (updφ g (base + s) Q) w'.heap v V):Post mt g w base (upd H (base + s) (some o)) v V w':=by
 refine ⟨updφ g (base + s) Q,⟨h2,h3,h4,by rw [hw];simp,fun b hb _=>by rw [hw],fun _ h=>h,fun _ h=>.inl h,updφ_phi hf⟩,fun n hn=>updφ_ne g Q (by omega),?_,hv⟩
 exact M.put (P:=Q) (updφ_same g _ Q) (updφ_phi hf) rfl hi (fun b hb=>by rw [hQ] at hb;cases hb) (fun c hc _=>by rw [hw]) (by rw [hw];simp) ho
theorem setRow_heap {w:World} {b:Nat} {vs us:Array Value} {t:TypeId} (h:w.heap[b]? = some (.cells vs t (0,0))):(w.setRow b us).heap[b]? = some (.cells us t (0,0)):=by
 simp only [World.setRow,Array.getElem?_modify,if_true,h,Option.map_some]
theorem setRow_other {w:World} {b k:Nat} {us:Array Value} (h:k ≠ b):(w.setRow b us).heap[k]? = w.heap[k]?:=by
 simp only [World.setRow,Array.getElem?_modify]
 rw [if_neg (Ne.symm h)]
theorem Post.set {mt:Nat→Prop} {g:Gh} {w w':World} {base n b:Nat} {H:HF} {v:SV} {V:Value} {o o':Obj} {Q:Pl} (M:Mem mt g H w.heap)
  (hH:H n = some o) (hQ:g.φ n = some Q) (hi0:o.iced = false) (hi:o'.iced = false) (hb:Q.blk = some b)
  (hk:∀ c,c ≠ b→w'.heap[c]? = w.heap[c]?) (hs:w'.heap.size = w.heap.size) (h2:w'.os = w.os) (h3:w'.tape = w.tape) (h4:w'.output = w.output)
  (ho:Stab g w.heap g w'.heap→ObjR g w'.heap Q o') (hv:Stab g w.heap g w'.heap→SVR g w'.heap v V):Post mt g w base (upd H n (some o')) v V w':=by
 obtain ⟨hmt,hnr⟩:=M.own n o Q b hH hi0 hQ hb
 have st:Stab g w.heap g w'.heap:=⟨fun _ h=>h,fun c hc=>hk c fun e=>hnr (e ▸ hc),fun _ _ h=>h⟩
 refine ⟨g,⟨h2,h3,h4,by rw [hs];exact Nat.le_refl _,fun c hc hor=>hk c fun e=>?_,fun _ h=>h,fun _ h=>.inl h,fun _ _ h=>h⟩,fun _ _=>rfl,?_,hv st⟩
 ·subst e;exact hor.elim (fun h=>h hmt) hnr
 ·refine M.put hQ (fun _ _ h=>h) rfl hi (fun c hc=>?_) (fun c _ hc=>hk c fun e=>hc (e ▸ hb)) (by rw [hs];exact Nat.le_refl _) (ho st)
  rw [hb] at hc
  cases hc
  exact ⟨hmt,hnr,fun m o2 R hm hHm hR hRb=>M.sep m n o2 o R Q b hm hHm hH hR hQ hRb hb⟩
/-! ### reading an operand -/
def SlR (g:Gh) (hp:HP) (sl:List SV) (a:Act):Prop:=∀ t,SVR g hp (getS sl t) (a.tmps.getD t undef)
theorem ofVal_VR (g:Gh) (hp:HP) (v:Value):VR g hp (ofVal v) v:=by
 unfold ofVal
 split <;> first
  | rfl
  | trivial
  | exact ⟨0,_,rfl,YthdgahpomhnidaaGreatF.rep_zero,YthdgahpomhnidaaGreatF.rep_one⟩
  | exact ⟨0,_,rfl,YthdgahpomhnidaaGreatF.rep_zero,YthdgahpomhnidaaGreatF.rep_neg_one⟩
theorem rd_SVR {g:Gh} {hp:HP} {sl:List SV} {a:Act} (h:SlR g hp sl a):∀ x:Operand,SVR g hp (rd sl x) (a.eval x)
 | .tmp t=>h t
 | .const v=>ofVal_VR g hp v
 | .func f=>⟨[],rfl,trivial⟩
 | .global _=>trivial
/-! ### types at work -/
theorem isAgg_run {t:Nat} {i:TI} (h:TIok P t i) (w:World):(isAgg t).run P w = .ok i.agg w:=by
 obtain ⟨x,d,z,h1,h2,h3,h4,h5,h6,h7⟩:=h.get
 simp only [isAgg,Sem.run_bind,run_underlying h6,Result.andThen_ok]
 cases d <;> simp only [udOf] at h7 <;> simp only [TI.agg,← h7,Sem.run_pure]
theorem sizeOf_run {t:Nat} {i:TI} (h:TIok P t i) (w:World):(sizeOf t).run P w = .ok i.size w:=by
 obtain ⟨x,d,z,h1,h2,_⟩:=h.get
 simp only [sizeOf,Sem.run_bind,run_typeInfo w h1,Result.andThen_ok,Sem.run_pure,h2]
theorem zero_run {t:Nat} {i:TI} (h:TIok P t i) (w:World):∃ z:Value,z.cells.toList = i.zero.map rawV∧(zeroValue t).run P w = .ok z w:=by
 obtain ⟨x,d,z,h1,h2,h3,h4,h5,_⟩:=h.get
 exact ⟨z,h5,by simp only [zeroValue,Sem.run_bind,run_typeInfo w h1,Result.andThen_ok,h4,Sem.run_pure]⟩
theorem und_run {t:Nat} {i:TI} (h:TIok P t i):∃ d,P.underlying t = some d∧udOf d = i.und:=by
 obtain ⟨x,d,z,_,_,_,_,_,h6,h7⟩:=h.get
 exact ⟨d,h6,h7⟩
theorem mkAV_cells {g:Gh} {hp:HP} {agg:Bool} {cs:List CV} {A:AV} {vs:List Value} (hm:mkAV agg cs = some A) (h:All2 (VR g hp) cs vs) :
  (agg = true→AVR g hp A (.agg vs.toArray))∧(agg = false→∃ v,vs = [v]∧AVR g hp A v):=by
 constructor
 ·rintro rfl
  simp only [mkAV,Option.some.injEq] at hm
  subst hm
  exact ⟨vs,rfl,h⟩
 ·rintro rfl
  match cs,vs,h with
  | [c],[v],h =>
   simp only [mkAV,Option.some.injEq] at hm
   subst hm
   exact ⟨v,rfl,h.1⟩
  | [],_,_=>simp [mkAV] at hm
  | _ :: _ :: _,_,_=>simp [mkAV] at hm
  | [_],[],h=>exact h.elim
  | [_],_ :: _ :: _,h=>exact h.2.elim
theorem load_run {g:Gh} {t:Nat} {i:TI} {w:World} {b off:Nat} {cs:List CV} {vs:List Value} {A:AV} (h:TIok P t i) (hl:vs.length = i.size)
  (hc:∀ j v,vs[j]? = some v→w.cell? ⟨b,off + j,none⟩ = some v) (hm:mkAV i.agg cs = some A) (hv:All2 (VR g w.heap) cs vs) :
  ∃ V,(Instr.loadAt t (.pointer (some ⟨b,off,none⟩))).run P w = .ok V w∧AVR g w.heap A V:=by
 obtain ⟨h1,h2⟩:=mkAV_cells hm hv
 have hadd:∀ j,(⟨b,off,none⟩:Addr).add j = ⟨b,off + j,none⟩:=fun j=>by
  unfold Addr.add
  split
  ·subst_vars;rfl
  ·rfl
 simp only [Instr.loadAt,Instr.sureAddr,Sem.run_bind,Sem.run_pure,Result.andThen_ok,loadVar,isAgg_run h]
 cases ha:i.agg with
 | true =>
  refine ⟨.agg vs.toArray,?_,h1 ha⟩
  simp only [if_true,Sem.run_bind,sizeOf_run h,Result.andThen_ok,← hl]
  rw [run_loadCells_list (P:=P) w ⟨b,off,none⟩ vs fun j v hj=>by rw [hadd];exact hc j v hj]
  rfl
 | false =>
  obtain ⟨v,rfl,hA⟩:=h2 ha
  refine ⟨v,?_,hA⟩
  simp only [Bool.false_eq_true,if_false,run_load,hc 0 v rfl]
  rw [show (⟨b,off,none⟩:Addr) = ⟨b,off + 0,none⟩ from rfl,hc 0 v rfl]
theorem oneCells {g:Gh} {hp:HP}:∀ {cs:List CV} {vs:List Value},All2 (VR g hp) cs vs→cs.all live = true→∀ v ∈ vs,v.oneCell' = true
 | [],[],_,_,v,hv=>by cases hv
 | c :: cs,u :: us,⟨h,hr⟩,hl,v,hv=>by
  simp only [List.all_cons,Bool.and_eq_true] at hl
  rcases List.mem_cons.1 hv with rfl | hv
  ·exact VR.one h (by rintro rfl;simp [live] at hl)
  ·exact oneCells hr hl.2 v hv
 | [],_ :: _,h,_,_,_=>h.elim
 | _ :: _,[],h,_,_,_=>h.elim
theorem avCs_VR {g:Gh} {hp:HP} {A:AV} {V:Value} (h:AVR g hp A V) (hl:(avCs A).all live = true):All2 (VR g hp) (avCs A) V.cells.toList:=by
 cases A with
 | agg xs=>obtain ⟨vs,rfl,h⟩:=h;exact h
 | c x =>
  have h':VR g hp x V:=h
  have:V.oneCell' = true:=VR.one h' (by rintro rfl;simp [avCs,live] at hl)
  refine (show All2 (VR g hp) [x] V.cells.toList from ?_)
  have e:V.cells.toList = [V]:=by cases V <;> first | rfl | simp [Value.oneCell'] at this
  rw [e]
  exact ⟨h',trivial⟩
theorem store_run {t:Nat} {i:TI} {w:World} {b off:Nat} {V:Value} {cur:Array Value} {ty:TypeId} (h:TIok P t i) (hl:V.cells.toList.length = i.size)
  (hb:w.heap[b]? = some (.cells cur ty (0,0))) (hfit:off + V.cells.toList.length ≤ cur.size) (h1:∀ v ∈ V.cells.toList,v.oneCell' = true) :
  (Instr.storeAt t (.pointer (some ⟨b,off,none⟩)) V).run P w = .ok () (w.setRow b (cur.toList.take off ++ V.cells.toList ++ cur.toList.drop (off + V.cells.toList.length)).toArray):=by
 have hst:=run_storeCells_at P b off ty V.cells.toList 0 cur w hb (by simpa using hfit) h1
 have hsz:V.cells.size = i.size:=by simpa using hl
 simp only [Nat.add_zero] at hst
 have e0:(⟨b,off,none⟩:Addr).add 0 = ⟨b,off,none⟩:=rfl
 simp only [Instr.storeAt,Instr.sureAddr,Sem.run_bind,Sem.run_pure,Result.andThen_ok,storeVar,sizeOf_run h,hsz,ne_eq,not_true_eq_false,if_false,hst]
end Go.Proofs.YthdgahpomhnidaaGreat.Mx
/- The interpreter's loads and stores do what the model's do (own work). -/
namespace Go.Proofs.YthdgahpomhnidaaGreat.Mx
open Go
set_option autoImplicit false
set_option linter.unusedVariables false
set_option linter.unusedSimpArgs false
variable {P:Program}
theorem svO_eval {A:Option AV} {b:Nat} {H H':HF} {fp fp':FP} {v:SV} (h:(svO A).eval b H fp = some (v,H',fp')):∃ x,A = some x∧v = .v x∧H' = H:=by
 cases A with
 | none=>cases h
 | some x=>simp only [svO,MA.eval,Option.some.injEq,Prod.mk.injEq] at h;exact ⟨x,rfl,h.1.symm,h.2.1.symm⟩
theorem cell_blk {w:World} {b k:Nat} {vs:Array Value} {ty:TypeId} {fz:Nat×Nat} (h:w.heap[b]? = some (.cells vs ty fz)):w.cell? ⟨b,k,none⟩ = vs.toList[k]?:=by
 rw [cell_of_row w b k vs ty fz h];simp
theorem nth_cut {α:Type} {l:List α} {k n j:Nat} {x:α} (h:((l.drop k).take n)[j]? = some x):l[k + j]? = some x:=by
 rw [List.getElem?_take] at h
 split at h
 ·rwa [List.getElem?_drop] at h
 ·cases h
theorem every_nth {stride:Nat}:∀ (n:Nat) (cs l:List CV),everyCs stride n cs = some l→l.length = n∧∀ j c,l[j]? = some c→cs[j * stride]? = some c
 | 0,cs,l,h=>by simp only [everyCs,Option.some.injEq] at h;subst h;exact ⟨rfl,fun j c hc=>by simp at hc⟩
 | n + 1,[],l,h=>by simp [everyCs] at h
 | n + 1,c :: cs,l,h=>by
  simp only [everyCs] at h
  cases hr:everyCs stride n ((c :: cs).drop stride) with
  | none=>rw [hr] at h;cases h
  | some r =>
   rw [hr] at h
   simp only [Option.map_some,Option.some.injEq] at h
   subst h
   obtain ⟨h1,h2⟩:=every_nth n _ r hr
   refine ⟨by simp [h1],fun j x hx=>?_⟩
   cases j with
   | zero=>simpa using hx
   | succ j =>
    have:=h2 j x (by simpa using hx)
    rw [List.getElem?_drop] at this
    rwa [Nat.add_mul,Nat.one_mul,Nat.add_comm]
theorem intsOf_nth {k:IntKind}:∀ (cs:List CV) (l:List Int),intsOf k cs = some l→l.length = cs.length∧∀ j,j < cs.length→cs[j]? = some (.int k (l.getD j 0))
 | [],l,h=>by simp only [intsOf,Option.some.injEq] at h;subst h;exact ⟨rfl,fun j hj=>by simp at hj⟩
 | c :: cs,l,h=>by
  cases c with
  | int k' n =>
   simp only [intsOf] at h
   split at h
   ·rename_i he
    subst he
    cases hr:intsOf k' cs with
    | none=>rw [hr] at h;cases h
    | some r =>
     rw [hr] at h
     simp only [Option.map_some,Option.some.injEq] at h
     subst h
     obtain ⟨h1,h2⟩:=intsOf_nth cs r hr
     refine ⟨by simp [h1],fun j hj=>?_⟩
     cases j with
     | zero=>rfl
     | succ j=>simpa using h2 j (by simpa using hj)
   ·cases h
  | _=>simp [intsOf] at h
theorem boolsOf_nth:∀ (cs:List CV) (l:List Bool),boolsOf cs = some l→l.length = cs.length∧∀ j,j < cs.length→cs[j]? = some (.bool (l.getD j false))
 | [],l,h=>by simp only [boolsOf,Option.some.injEq] at h;subst h;exact ⟨rfl,fun j hj=>by simp at hj⟩
 | c :: cs,l,h=>by
  cases c with
  | bool n =>
   simp only [boolsOf] at h
   cases hr:boolsOf cs with
   | none=>rw [hr] at h;cases h
   | some r =>
    rw [hr] at h
    simp only [Option.map_some,Option.some.injEq] at h
    subst h
    obtain ⟨h1,h2⟩:=boolsOf_nth cs r hr
    refine ⟨by simp [h1],fun j hj=>?_⟩
    cases j with
    | zero=>rfl
    | succ j=>simpa using h2 j (by simpa using hj)
  | _=>simp [boolsOf] at h
theorem sel_nth {cs:List CV} {i:Nat} {c:CV} (h:sel cs i = some c) (hi:i < cs.length):cs[i]? = some c:=by
 cases cs with
 | nil=>simp at hi
 | cons x r =>
  cases x with
  | int k n =>
   simp only [sel] at h
   cases hr:intsOf k (.int k n :: r) with
   | none=>rw [hr] at h;cases h
   | some l=>rw [hr] at h;simp only [Option.map_some,Option.some.injEq] at h;subst h;exact (intsOf_nth _ l hr).2 i hi
  | bool b =>
   simp only [sel] at h
   cases hr:boolsOf (.bool b :: r) with
   | none=>rw [hr] at h;cases h
   | some l=>rw [hr] at h;simp only [Option.map_some,Option.some.injEq] at h;subst h;exact (boolsOf_nth _ l hr).2 i hi
  | _=>simp [sel] at h
theorem selN_nth {cs:List CV} {len stride i:Nat} (hi:i < len):∀ (n o:Nat) (r:List CV),selN cs len stride i o n = some r→r.length = n∧∀ j c,r[j]? = some c→cs[i * stride + o + j]? = some c
 | 0,o,r,h=>by simp only [selN,Option.some.injEq] at h;subst h;exact ⟨rfl,fun j c hc=>by simp at hc⟩
 | n + 1,o,r,h=>by
  simp only [selN] at h
  cases h1:everyCs stride len (cs.drop o) with
  | none=>rw [h1] at h;cases h
  | some l =>
   rw [h1] at h
   simp only at h
   cases h2:sel l i with
   | none=>rw [h2] at h;cases h
   | some c =>
    rw [h2] at h
    simp only at h
    cases h3:selN cs len stride i (o + 1) n with
    | none=>rw [h3] at h;cases h
    | some r' =>
     rw [h3] at h
     simp only [Option.map_some,Option.some.injEq] at h
     subst h
     obtain ⟨e1,e2⟩:=every_nth len _ l h1
     obtain ⟨e3,e4⟩:=selN_nth hi n (o + 1) r' h3
     refine ⟨by simp [e3],fun j x hx=>?_⟩
     cases j with
     | zero =>
      simp only [List.getElem?_cons_zero,Option.some.injEq] at hx
      subst hx
      have:=e2 i c (sel_nth h2 (by rw [e1];exact hi))
      rw [List.getElem?_drop] at this
      rwa [Nat.add_zero,Nat.add_comm]
     | succ j =>
      have:=e4 j x (by simpa using hx)
      rwa [show i * stride + o + (j + 1) = i * stride + (o + 1) + j by omega]
theorem All2.of_nth {α β:Type} {R:α→β→Prop}:∀ (l:List α) (m:List β),(∀ (j:Nat) (x:α),l[j]? = some x→∃ y,m[j]? = some y∧R x y)→l.length = m.length→All2 R l m
 | [],[],_,_=>trivial
 | [],_ :: _,_,h=>by simp at h
 | _ :: _,[],_,h=>by simp at h
 | x :: l,y :: m,h,hl=>by
  obtain ⟨y',h1,h2⟩:=h 0 x rfl
  simp only [List.getElem?_cons_zero,Option.some.injEq] at h1
  subst h1
  exact ⟨h2,All2.of_nth l m (fun j x hx=>h (j + 1) x hx) (by simpa using hl)⟩
section
variable {mt:Nat→Prop} {g:Gh} {H H':HF} {w:World} {base:Nat} {fp fp':FP} {v:SV} {i:TI} {t:Nat}
theorem arr_elem {Q:Pl} {e:Ty} {l:List e.T} {k b:Nat} (h:ArrR g w.heap Q e l) (hb:Q.blk = some b) (hk:k < Q.len) :
  ∃ vs ty u,w.heap[b]? = some (.cells vs ty (0,0))∧u = (vs.toList.drop (k * Q.size)).take e.size∧Rd g.ro w.heap e (l.getD k e.dflt) u:=by
 obtain ⟨h1,h2,h3,h4⟩:=h
 rw [hb] at h4
 obtain ⟨_,vs,ty,us,rest,h5,h6,h7,h8⟩:=h4
 obtain ⟨u,h9,h10⟩:=RdL.get l us k e.dflt h7 (by omega)
 refine ⟨vs,ty,u,h5,?_,h10⟩
 have hlen:=RdL.length l us h7
 have hkl:(k + 1) * e.size ≤ l.length * e.size:=Nat.mul_le_mul_right _ (by omega)
 rw [Nat.add_mul,Nat.one_mul] at hkl
 rw [← h9,h6,h2,List.drop_append_of_le_length (by omega),List.take_append_of_le_length (by rw [List.length_drop];omega)]
theorem load_elem {e:Ty} {x:e.T} {u:List Value} {vs:List Value} {b k off:Nat} {l:List CV} {A:AV} (ht:TIok P t i) (hu:u = (vs.drop k).take e.size) (hR:Rd g.ro w.heap e x u)
  (hc:∀ j,w.cell? ⟨b,j,none⟩ = vs[j]?) (hcut:cutCs (e.enc x []) off i.size = some l) (hA:mkAV i.agg l = some A) :
  ∃ V,(Instr.loadAt t (.pointer (some ⟨b,k + off,none⟩))).run P w = .ok V w∧AVR g w.heap A V:=by
 have h1:=Rd.enc e x u [] [] hR trivial
 rw [List.append_nil] at h1
 obtain ⟨h2,h3⟩:=cut_VR h1 hcut
 refine load_run ht h3 (fun j y hy=>?_) hA h2
 rw [hc,Nat.add_assoc]
 have:=nth_cut hy
 rw [hu] at this
 exact nth_cut this
theorem load_does {x:SV} {X:Value} (ht:TIok P t i) (M:Mem mt g H w.heap) (hx:SVR g w.heap x X) (h:(loadM i x).eval base H fp = some (v,H',fp')) :
  ∃ V,(Instr.loadAt t X).run P w = .ok V w∧SVR g w.heap v V∧H' = H:=by
 unfold loadM at h
 split at h
 · -- a cell of a box
  rename_i n off
  obtain ⟨Q,b,hQ,hb,rfl⟩:=(hx:VR g w.heap (.ptr n off) X)
  simp only [MA.eval] at h
  cases ho:H n with
  | none=>rw [ho] at h;cases h
  | some o =>
   rw [ho] at h
   obtain ⟨Q',hQ',hO⟩:=M.obj n o ho
   rw [hQ] at hQ'
   cases hQ'
   cases o with
   | box cs =>
    obtain ⟨b',vs,ty,hb',hh,hA⟩:=hO
    rw [hb] at hb'
    cases hb'
    simp only at h
    split at h
    ·rename_i l hl
     obtain ⟨A,hA1,rfl,rfl⟩:=svO_eval h
     obtain ⟨h1,h2⟩:=cut_VR hA hl
     obtain ⟨V,h3,h4⟩:=load_run ht h2 (fun j y hy=>by rw [cell_blk hh];exact nth_cut hy) hA1 h1
     exact ⟨V,h3,h4,rfl⟩
    ·cases h
   | arr _ _=>cases h
   | ice _ _=>cases h
 · -- a cell of an element
  rename_i n k off
  obtain ⟨Q,b,hQ,hb,hk,rfl⟩:=(hx:VR g w.heap (.eptr n k off) X)
  simp only [MA.eval] at h
  cases ho:H n with
  | none=>rw [ho] at h;cases h
  | some o =>
   rw [ho] at h
   obtain ⟨Q',hQ',hO⟩:=M.obj n o ho
   rw [hQ] at hQ'
   cases hQ'
   cases o with
   | box cs=>cases h
   | arr e l =>
    obtain ⟨vs,ty,u,h1,h2,h3⟩:=arr_elem (hO:ArrR g w.heap Q e l) hb hk
    simp only at h
    split at h
    ·rename_i l' hl
     obtain ⟨A,hA1,rfl,rfl⟩:=svO_eval h
     obtain ⟨V,h4,h5⟩:=load_elem ht h2 h3 (fun j=>cell_blk h1) hl hA1
     exact ⟨V,h4,h5,rfl⟩
    ·cases h
   | ice e l =>
    obtain ⟨vs,ty,u,h1,h2,h3⟩:=arr_elem (hO:ArrR g w.heap Q e l) hb hk
    simp only at h
    split at h
    ·rename_i l' hl
     obtain ⟨A,hA1,rfl,rfl⟩:=svO_eval h
     obtain ⟨V,h4,h5⟩:=load_elem ht h2 h3 (fun j=>cell_blk h1) hl hA1
     exact ⟨V,h4,h5,rfl⟩
    ·cases h
 · -- a cell of a row that nobody writes to
  rename_i e l k off
  obtain ⟨b,o,cs,ty,fz,us,rest,rfl,hb,hh,hd,hR,hk⟩:=(hx:VR g w.heap (.rptr e l k off) X)
  split at h
  ·rename_i l' hl
   obtain ⟨A,hA1,rfl,rfl⟩:=svO_eval h
   obtain ⟨u,h1,h2⟩:=RdL.get l us k e.dflt hR hk
   have hlen:=RdL.length l us hR
   have hkl:(k + 1) * e.size ≤ l.length * e.size:=Nat.mul_le_mul_right _ (by omega)
   rw [Nat.add_mul,Nat.one_mul] at hkl
   have h3:u = (cs.toList.drop (o + k * e.size)).take e.size:=by
    rw [← h1,← List.drop_drop,hd,List.drop_append_of_le_length (by omega),List.take_append_of_le_length (by rw [List.length_drop];omega)]
   obtain ⟨V,h4,h5⟩:=load_elem ht h3 h2 (fun j=>cell_blk hh) hl hA1
   exact ⟨V,h4,h5,rfl⟩
  ·cases h
 · -- a cell of an array in a box
  rename_i n off len stride k o
  obtain ⟨Q,b,hQ,hb,hk,rfl⟩:=(hx:VR g w.heap (.aptr n off len stride k o) X)
  simp only [MA.eval] at h
  cases ho:H n with
  | none=>rw [ho] at h;cases h
  | some ob =>
   rw [ho] at h
   obtain ⟨Q',hQ',hO⟩:=M.obj n ob ho
   rw [hQ] at hQ'
   cases hQ'
   cases ob with
   | box cs =>
    obtain ⟨b',vs,ty,hb',hh,hA⟩:=hO
    rw [hb] at hb'
    cases hb'
    simp only at h
    split at h
    ·rename_i l hl
     split at h
     ·rename_i r hr
      obtain ⟨A,hA1,rfl,rfl⟩:=svO_eval h
      obtain ⟨h1,h2⟩:=cut_VR hA hl
      obtain ⟨h3,h4⟩:=selN_nth hk i.size o r hr
      have hle:=All2.length h1
      have hall:∀ j c,r[j]? = some c→∃ y,(((vs.toList.drop off).take (len * stride)).drop (k * stride + o))[j]? = some y∧VR g w.heap c y:=fun j c hc=>by
       obtain ⟨y,hy1,hy2⟩:=All2.get _ h1 (h4 j c hc)
       exact ⟨y,by rw [List.getElem?_drop];exact hy1,hy2⟩
      have hrl:i.size ≤ (((vs.toList.drop off).take (len * stride)).drop (k * stride + o)).length:=by
       rcases Nat.eq_zero_or_pos i.size with hz | hz
       ·omega
       ·have:i.size - 1 < r.length:=by omega
        obtain ⟨y,hy,_⟩:=hall (i.size - 1) _ (List.getElem?_eq_getElem this)
        have:=(List.getElem?_eq_some_iff.1 hy).1
        omega
      have h5:All2 (VR g w.heap) r ((((vs.toList.drop off).take (len * stride)).drop (k * stride + o)).take i.size):=by
       refine All2.of_nth _ _ (fun j c hc=>?_) (by rw [List.length_take];omega)
       obtain ⟨y,hy,hv⟩:=hall j c hc
       have hj:j < i.size:=by have:=(List.getElem?_eq_some_iff.1 hc).1;omega
       exact ⟨y,by rw [List.getElem?_take,if_pos hj];exact hy,hv⟩
      obtain ⟨V,h6,h7⟩:=load_run ht (by rw [List.length_take];omega) (fun j y hy=>by
       rw [cell_blk hh,show off + k * stride + o + j = off + (k * stride + o + j) by omega]
       exact nth_cut (nth_cut hy)) hA1 h5
      exact ⟨V,h6,h7,rfl⟩
     ·cases h
    ·cases h
   | arr _ _=>cases h
   | ice _ _=>cases h
 ·cases h
/-! ### stores -/
theorem putAt_nth {stride o k:Nat} {y:CV} (hs:o < stride):∀ (cs:List CV) (q:Nat) (r:List CV),putAt stride o k y q cs = some r→r.length = cs.length∧∀ m,r[m]? = if q + m = k * stride + o∧m < cs.length then some y else cs[m]?
 | [],q,r,h=>by simp only [putAt,Option.some.injEq] at h;subst h;exact ⟨rfl,fun m=>by simp⟩
 | c :: cs,q,r,h=>by
  simp only [putAt] at h
  cases h1:putAt stride o k y (q + 1) cs with
  | none=>rw [h1] at h;cases h
  | some r' =>
   rw [h1] at h
   simp only at h
   obtain ⟨e1,e2⟩:=putAt_nth hs cs (q + 1) r' h1
   have tail:∀ (x:CV) (m:Nat),(x :: r')[m + 1]? = if q + (m + 1) = k * stride + o∧m + 1 < (c :: cs).length then some y else (c :: cs)[m + 1]?:=fun x m=>by
    rw [List.getElem?_cons_succ,e2 m,List.getElem?_cons_succ,List.length_cons]
    by_cases hc:q + 1 + m = k * stride + o∧m < cs.length
    ·rw [if_pos hc,if_pos ⟨by omega,by omega⟩]
    ·rw [if_neg hc,if_neg (fun hh=>hc ⟨by omega,by omega⟩)]
   have hmod:q % stride = o→(k = q / stride ↔ q = k * stride + o):=fun hq=>by
    have hd:=Nat.div_add_mod q stride
    constructor
    ·intro hk;rw [hk,← hq,Nat.mul_comm];exact hd.symm
    ·intro hk
     have:(k * stride + o) / stride = k:=by rw [Nat.mul_comm,Nat.mul_add_div (by omega),Nat.div_eq_of_lt hs,Nat.add_zero]
     rw [hk,this]
   cases hb:Nat.beq (q % stride) o with
   | false =>
    rw [hb] at h
    simp only [Option.some.injEq] at h
    subst h
    refine ⟨by simp [e1],fun m=>?_⟩
    cases m with
    | zero =>
     have hne:¬ (q + 0 = k * stride + o∧0 < (c :: cs).length):=fun hh=>by
      have:q % stride = o:=by
       rw [show q = k * stride + o by omega,Nat.mul_comm,Nat.mul_add_mod]
       exact Nat.mod_eq_of_lt hs
      rw [this,beq_self] at hb
      cases hb
     rw [if_neg hne]
     rfl
    | succ m=>exact tail c m
   | true =>
    have hq:=beq_eq hb
    rw [hb] at h
    simp only at h
    have fin:∀ x,some (x :: r') = some r→(k = q / stride→x = y)→(k ≠ q / stride→x = c)→r.length = (c :: cs).length∧∀ m,r[m]? = if q + m = k * stride + o∧m < (c :: cs).length then some y else (c :: cs)[m]?:=fun x hx h3 h4=>by
     simp only [Option.some.injEq] at hx
     subst hx
     refine ⟨by simp [e1],fun m=>?_⟩
     cases m with
     | zero =>
      by_cases hk:k = q / stride
      ·rw [if_pos ⟨(hmod hq).1 hk,by simp⟩,h3 hk];rfl
      ·rw [if_neg (fun hh=>hk ((hmod hq).2 hh.1)),h4 hk];rfl
     | succ m=>exact tail x m
    split at h
    ·split at h
     ·rename_i k1 n k2 z he
      subst he
      exact fin _ h (fun hk=>by rw [if_pos hk]) (fun hk=>by rw [if_neg hk])
     ·cases h
    ·exact fin _ h (fun hk=>by rw [if_pos hk]) (fun hk=>by rw [if_neg hk])
    ·cases h
theorem put_nth {α:Type} (l:List α) (off:Nat) (u:List α) (q:Nat) (h:off + u.length ≤ l.length) :
  (l.take off ++ u ++ l.drop (off + u.length))[q]? = if off ≤ q∧q < off + u.length then u[q - off]? else l[q]?:=by
 have h1:(l.take off).length = off:=by rw [List.length_take];omega
 by_cases hq:q < off
 ·rw [if_neg (by omega),List.append_assoc,List.getElem?_append_left (by omega),List.getElem?_take,if_pos hq]
 ·by_cases hq2:q < off + u.length
  ·rw [if_pos ⟨by omega,hq2⟩,List.append_assoc,List.getElem?_append_right (by omega),h1,List.getElem?_append_left (by omega)]
  ·rw [if_neg (by omega),List.getElem?_append_right (by rw [List.length_append];omega),List.length_append,h1,List.getElem?_drop]
   congr 1
   omega
theorem putN_nth {stride k:Nat}:∀ (vs:List CV) (o:Nat) (cs r:List CV),o + vs.length ≤ stride→putN stride k o vs cs = some r→r.length = cs.length ∧
  ∀ q,q < cs.length→r[q]? = if k * stride + o ≤ q∧q < k * stride + o + vs.length then vs[q - (k * stride + o)]? else cs[q]?
 | [],o,cs,r,_,h=>by
  simp only [putN,Option.some.injEq] at h
  subst h
  exact ⟨rfl,fun q _=>by rw [if_neg (by simp only [List.length_nil];omega)]⟩
 | y :: vs,o,cs,r,ho,h=>by
  simp only [putN] at h
  cases h1:putAt stride o k y 0 cs with
  | none=>rw [h1] at h;cases h
  | some cs' =>
   rw [h1] at h
   simp only [List.length_cons] at h ho
   obtain ⟨e1,e2⟩:=putAt_nth (by omega) cs 0 cs' h1
   obtain ⟨e3,e4⟩:=putN_nth vs (o + 1) cs' r (by omega) h
   refine ⟨by omega,fun q hq=>?_⟩
   rw [e4 q (by omega),e2 q]
   simp only [List.length_cons]
   by_cases ha:q = k * stride + o
   ·rw [if_neg (by omega),if_pos ⟨by omega,hq⟩,if_pos ⟨by omega,by omega⟩,ha,Nat.sub_self];rfl
   ·by_cases hb:k * stride + (o + 1) ≤ q∧q < k * stride + (o + 1) + vs.length
    ·rw [if_pos hb,if_pos ⟨by omega,by omega⟩,show q - (k * stride + o) = (q - (k * stride + (o + 1))) + 1 by omega];rfl
    ·have hc:¬ (0 + q = k * stride + o∧q < cs.length):=fun hh=>ha (by omega)
     have hd:¬ (k * stride + o ≤ q∧q < k * stride + o + (vs.length + 1)):=fun hh=>hb ⟨by omega,by omega⟩
     rw [if_neg hb,if_neg hc,if_neg hd]
theorem fits_spec {cs:List CV} {n:Nat} (h:fits cs n = true):cs.length = n∧cs.all live = true:=by
 unfold fits at h
 simp only [Bool.and_eq_true] at h
 exact ⟨beq_eq h.1,h.2⟩
theorem store_does {x y:SV} {X Y:Value} (ht:TIok P t i) (M:Mem mt g H w.heap) (hx:SVR g w.heap x X) (hy:SVR g w.heap y Y) (h:(storeM i x y).eval base H fp = some (v,H',fp')) :
  ∃ w',(Instr.storeAt t X Y).run P w = .ok () w'∧Post mt g w base H' v undef w':=by
 unfold storeM at h
 split at h
 · -- a cell of a box
  rename_i n off a
  obtain ⟨Q,b,hQ,hb,rfl⟩:=(hx:VR g w.heap (.ptr n off) X)
  cases hf:fits (avCs a) i.size with
  | false=>rw [hf] at h;cases h
  | true =>
   rw [hf] at h
   obtain ⟨f1,f2⟩:=fits_spec hf
   simp only [MA.eval] at h
   cases ho:H n with
   | none=>rw [ho] at h;cases h
   | some o =>
    rw [ho] at h
    obtain ⟨Q',hQ',hO⟩:=M.obj n o ho
    rw [hQ] at hQ'
    cases hQ'
    cases o with
    | arr _ _=>cases h
    | ice _ _=>cases h
    | box cs =>
     obtain ⟨b',vs,ty,hb',hh,hA⟩:=hO
     rw [hb] at hb'
     cases hb'
     simp only at h
     split at h
     ·rename_i cs' hc
      simp only [MA.eval,ho,Option.some.injEq,Prod.mk.injEq] at h
      obtain ⟨rfl,rfl,_⟩:=h
      have hv2:=avCs_VR (A:=a) hy f2
      have hlen:=All2.length hv2
      obtain ⟨h1,h2⟩:=put_VR hA hv2 hc
      refine ⟨_,store_run ht (by omega) hh (by simpa using h2) (oneCells hv2 f2),?_⟩
      refine Post.set M ho hQ rfl rfl hb (fun c hc=>setRow_other hc) (by simp) rfl rfl rfl (fun st=>⟨b,_,ty,hb,setRow_heap hh,?_⟩) (fun _=>trivial)
      exact All2.mono (VR.stab st) _ _ (by simpa using h1)
     ·cases h
 · -- a cell of an element
  rename_i n k off a
  obtain ⟨Q,b,hQ,hb,hk,rfl⟩:=(hx:VR g w.heap (.eptr n k off) X)
  cases hf:fits (avCs a) i.size with
  | false=>rw [hf] at h;cases h
  | true =>
   rw [hf] at h
   obtain ⟨f1,f2⟩:=fits_spec hf
   simp only [MA.eval] at h
   cases ho:H n with
   | none=>rw [ho] at h;cases h
   | some o =>
    rw [ho] at h
    obtain ⟨Q',hQ',hO⟩:=M.obj n o ho
    rw [hQ] at hQ'
    cases hQ'
    cases o with
    | box _=>cases h
    | ice _ _=>cases h
    | arr e l =>
     have hO0:=hO
     obtain ⟨a1,a2,a3,a4⟩:=hO
     rw [hb] at a4
     obtain ⟨a5,vs,ty,us,rest,a6,a7,a8,a9⟩:=a4
     simp only at h
     split at h
     ·rename_i cs hc
      split at h
      ·rename_i z hd
       simp only [MA.eval,ho,Option.some.injEq,Prod.mk.injEq] at h
       obtain ⟨rfl,rfl,_⟩:=h
       obtain ⟨u,u1,u2⟩:=RdL.get l us k e.dflt a8 (by omega)
       have hlen:=RdL.length l us a8
       have hkl:(k + 1) * e.size ≤ l.length * e.size:=Nat.mul_le_mul_right _ (by omega)
       rw [Nat.add_mul,Nat.one_mul] at hkl
       have hv2:=avCs_VR (A:=a) hy f2
       have hlv:=All2.length hv2
       have h1:=Rd.enc e _ u [] [] u2 trivial
       rw [List.append_nil] at h1
       obtain ⟨h2,h3⟩:=put_VR h1 hv2 hc
       obtain ⟨u',v',e1,e2,e3⟩:=dec_Rd e cs _ z [] h2 hd
       have hv':v' = []:=by
        have:=All2.length e3
        exact List.length_eq_zero_iff.1 (by simpa using this.symm)
       subst hv'
       rw [List.append_nil] at e1
       have hul:u.length = e.size:=Rd.length e _ _ u2
       have hvs:vs.size = vs.toList.length:=by simp
       have hfit:k * Q.size + off + Y.cells.toList.length ≤ vs.size:=by
        rw [hvs,a7,List.length_append,a2];omega
       refine ⟨_,store_run ht (by omega) a6 hfit (oneCells hv2 f2),?_⟩
       refine Post.set M ho hQ rfl rfl hb (fun c hc=>setRow_other hc) (by simp) rfl rfl rfl (fun st=>?_) (fun _=>trivial)
       refine ⟨by simpa using a1,a2,a3,?_⟩
       rw [hb]
       have hset:=RdL.set l us k z u' a8 (by omega) e2
       have hu':u'.length = e.size:=Rd.length e _ _ e2
       refine ⟨a5,_,ty,_,rest,setRow_heap a6,?_,RdL.mono (fun x vs=>Rd.stab st.ro st.hp e x vs) _ _ hset,?_⟩
       ·refine List.ext_getElem? fun q=>?_
        have hsz:Q.size = e.size:=a2
        rw [hsz]
        simp only [hsz] at hfit
        have hL:us.length = l.length * e.size:=hlen
        rw [show (vs.toList.take (k * e.size + off) ++ Y.cells.toList ++ vs.toList.drop (k * e.size + off + Y.cells.toList.length)).toArray.toList = vs.toList.take (k * e.size + off) ++ Y.cells.toList ++ vs.toList.drop (k * e.size + off + Y.cells.toList.length) from by simp]
        rw [put_nth _ _ _ _ (by rw [← hvs];exact hfit)]
        have hU:(us.take (k * e.size) ++ u' ++ us.drop (k * e.size + e.size)).length = us.length:=by
         simp only [List.length_append,List.length_take,List.length_drop];omega
        by_cases hq:q < us.length
        ·have hpn:=put_nth us (k * e.size) u' q (by omega)
         rw [hu'] at hpn
         rw [List.getElem?_append_left (by rw [hU];exact hq),hpn]
         rw [show vs.toList[q]? = us[q]? by rw [a7,List.getElem?_append_left hq]]
         by_cases hin:k * e.size ≤ q∧q < k * e.size + e.size
         ·rw [if_pos hin,← e1,put_nth u off _ _ (by omega)]
          by_cases hw:k * e.size + off ≤ q∧q < k * e.size + off + Y.cells.toList.length
          ·rw [if_pos hw,if_pos (by omega)]
           congr 1
           omega
          ·rw [if_neg hw,if_neg (by omega),← u1,List.getElem?_take,if_pos (by omega),List.getElem?_drop]
           congr 1
           omega
         ·rw [if_neg hin,if_neg (by omega)]
        ·rw [List.getElem?_append_right (by omega),hU,if_neg (by omega),a7,List.getElem?_append_right (by omega)]
       ·have:(vs.toList.take (k * Q.size + off) ++ Y.cells.toList ++ vs.toList.drop (k * Q.size + off + Y.cells.toList.length)).toArray.size = vs.size:=by
         simp only [List.size_toArray,List.length_append,List.length_take,List.length_drop];omega
        rw [this]
        exact a9
      ·cases h
     ·cases h
 · -- a cell of an array in a box
  rename_i n off len stride k o a
  obtain ⟨Q,b,hQ,hb,hk,rfl⟩:=(hx:VR g w.heap (.aptr n off len stride k o) X)
  cases hf:(fits (avCs a) i.size && Nat.ble (o + (avCs a).length) stride) with
  | false=>rw [hf] at h;cases h
  | true =>
   rw [hf] at h
   simp only [Bool.and_eq_true] at hf
   obtain ⟨f1,f2⟩:=fits_spec hf.1
   have f3:=Nat.le_of_ble_eq_true hf.2
   simp only [MA.eval] at h
   cases ho:H n with
   | none=>rw [ho] at h;cases h
   | some ob =>
    rw [ho] at h
    obtain ⟨Q',hQ',hO⟩:=M.obj n ob ho
    rw [hQ] at hQ'
    cases hQ'
    cases ob with
    | arr _ _=>cases h
    | ice _ _=>cases h
    | box cs =>
     obtain ⟨b',vs,ty,hb',hh,hA⟩:=hO
     rw [hb] at hb'
     cases hb'
     simp only at h
     split at h
     ·rename_i l hl
      split at h
      ·rename_i l' hl'
       split at h
       ·rename_i cs' hc
        simp only [MA.eval,ho,Option.some.injEq,Prod.mk.injEq] at h
        obtain ⟨rfl,rfl,_⟩:=h
        have hv2:=avCs_VR (A:=a) hy f2
        have hlv:=All2.length hv2
        obtain ⟨hl1,hl2⟩:=cut_VR hA hl
        obtain ⟨p1,p2⟩:=putN_nth (avCs a) o l l' f3 hl'
        have hll:=All2.length hl1
        have hkl:(k + 1) * stride ≤ len * stride:=Nat.mul_le_mul_right _ hk
        rw [Nat.add_mul,Nat.one_mul] at hkl
        -- the array's cells behind the store
        have hseg:All2 (VR g w.heap) l' (((vs.toList.drop off).take (len * stride)).take (k * stride + o) ++ Y.cells.toList ++ ((vs.toList.drop off).take (len * stride)).drop (k * stride + o + Y.cells.toList.length)):=by
         have hL:(((vs.toList.drop off).take (len * stride)).take (k * stride + o) ++ Y.cells.toList ++ ((vs.toList.drop off).take (len * stride)).drop (k * stride + o + Y.cells.toList.length)).length = len * stride:=by
          simp only [List.length_append,List.length_take,List.length_drop] at hl2 ⊢;omega
         refine All2.of_nth _ _ (fun q c hc=>?_) (by rw [hL];omega)
         have hq:q < l.length:=by have:=(List.getElem?_eq_some_iff.1 hc).1;omega
         rw [p2 q hq] at hc
         rw [put_nth _ _ _ _ (by omega)]
         by_cases hin:k * stride + o ≤ q∧q < k * stride + o + (avCs a).length
         ·rw [if_pos hin] at hc
          rw [if_pos (by omega)]
          exact All2.get _ hv2 hc
         ·rw [if_neg hin] at hc
          rw [if_neg (by omega)]
          exact All2.get _ hl1 hc
        obtain ⟨h1,h2⟩:=put_VR hA hseg hc
        have hsl:(((vs.toList.drop off).take (len * stride)).take (k * stride + o) ++ Y.cells.toList ++ ((vs.toList.drop off).take (len * stride)).drop (k * stride + o + Y.cells.toList.length)).length = len * stride:=by
         simp only [List.length_append,List.length_take,List.length_drop] at hl2 ⊢;omega
        have hvs:vs.size = vs.toList.length:=by simp
        rw [hsl] at h1 h2
        have hlist:vs.toList.take off ++ (((vs.toList.drop off).take (len * stride)).take (k * stride + o) ++ Y.cells.toList ++ ((vs.toList.drop off).take (len * stride)).drop (k * stride + o + Y.cells.toList.length)) ++ vs.toList.drop (off + len * stride) =
          vs.toList.take (off + k * stride + o) ++ Y.cells.toList ++ vs.toList.drop (off + k * stride + o + Y.cells.toList.length):=by
         refine List.ext_getElem? fun q=>?_
         have e1:=put_nth vs.toList off (((vs.toList.drop off).take (len * stride)).take (k * stride + o) ++ Y.cells.toList ++ ((vs.toList.drop off).take (len * stride)).drop (k * stride + o + Y.cells.toList.length)) q (by rw [hsl];exact h2)
         rw [hsl] at e1
         rw [e1,put_nth vs.toList (off + k * stride + o) _ q (by omega),put_nth _ _ _ _ (by omega)]
         by_cases hin:off ≤ q∧q < off + len * stride
         ·rw [if_pos hin]
          by_cases hw:off + k * stride + o ≤ q∧q < off + k * stride + o + Y.cells.toList.length
          ·rw [if_pos hw,if_pos (by omega)]
           congr 1
           omega
          ·rw [if_neg hw,if_neg (by omega),List.getElem?_take,if_pos (by omega),List.getElem?_drop]
           congr 1
           omega
         ·rw [if_neg hin,if_neg (by omega)]
        refine ⟨_,store_run ht (by omega) hh (by omega) (oneCells hv2 f2),?_⟩
        refine Post.set M ho hQ rfl rfl hb (fun c hc=>setRow_other hc) (by simp) rfl rfl rfl (fun st=>⟨b,_,ty,hb,setRow_heap hh,?_⟩) (fun _=>trivial)
        rw [hlist] at h1
        exact All2.mono (VR.stab st) _ _ (by simpa using h1)
       ·cases h
      ·cases h
     ·cases h
 ·cases h
end
end Go.Proofs.YthdgahpomhnidaaGreat.Mx

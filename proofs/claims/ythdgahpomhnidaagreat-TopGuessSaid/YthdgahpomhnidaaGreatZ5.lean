/- The interpreter's operations that make blocks do what the model's do (own work). -/
import Derived.Laws.MakeOwn
import Derived.Great.BuildSlice
import Derived.Test.YthdgahpomhnidaaGreatZ4
namespace Go.Proofs.YthdgahpomhnidaaGreat.Mx
open Go
set_option autoImplicit false
set_option linter.unusedVariables false
set_option linter.unusedSimpArgs false
variable {P:Program}
section
variable {mt:Nat→Prop} {g:Gh} {H H':HF} {w:World} {base:Nat} {fp fp':FP} {v:SV}
def Makes (P:Program) (mt:Nat→Prop) (g:Gh) (H':HF) (w:World) (base:Nat) (v:SV) (s:Sem Value):Prop:=∃ V w',s.run P w = .ok V w'∧Post mt g w base H' v V w'
theorem Gives.makes {s:Sem Value} (M:Mem mt g H w.heap) (h:Gives P g H H' w v s):Makes P mt g H' w base v s:=by
 obtain ⟨V,h1,h2,rfl⟩:=h
 exact ⟨V,w,h1,Post.same M h2⟩
theorem keys_pos:0 < keys:=by decide
theorem box_does {cs:List CV} {V:Value} {t:Nat} (M:Mem mt g H w.heap) (hm:∀ b,w.heap.size ≤ b→mt b) (hf:∀ n,base ≤ n→n < base + keys→g.φ n = none) (hv:All2 (VR g w.heap) cs V.cells.toList)
  (h:(boxM cs).eval base H fp = some (v,H',fp')):Makes P mt g H' w base v (do pure (.pointer (some (← newVar t V)))):=by
 simp only [boxM,MA.eval] at h
 cases ho:H (base + 0) with
 | some _=>rw [ho] at h;cases h
 | none =>
  rw [ho] at h
  simp only [keys_pos,if_true,ret,MA.eval,Option.some.injEq,Prod.mk.injEq] at h
  obtain ⟨rfl,rfl,_⟩:=h
  let Q:Pl:=⟨some w.heap.size,none,0,0,0⟩
  refine ⟨.pointer (some ⟨w.heap.size,0,none⟩),{ w with heap:=w.heap.push (.cells V.cells t) },by simp only [newVar,newRow,Sem.run_bind,run_newObj,Result.andThen_ok,Sem.run_pure],?_⟩
  have hfr:=hf (base + 0) (by omega) (by have:=keys_pos;omega)
  have st:Stab g w.heap (updφ g (base + 0) Q) (w.heap.push (.cells V.cells t)):=⟨fun _ h=>h,fun b hb=>push_old _ _ _ (M.ro b hb),updφ_phi hfr⟩
  refine Post.new (Q:=Q) M hm rfl rfl rfl rfl hfr keys_pos rfl rfl ⟨_,V.cells,t,rfl,push_new _ _,All2.mono (VR.stab st) _ _ hv⟩ ⟨Q,_,updφ_same g _ Q,rfl,rfl⟩
theorem fold_set:∀ (vs:List Value) (k off:Nat) (cells:Array Value),off + k + vs.length ≤ cells.size →
  ((vs.zipIdx k).foldl (fun (cs:Array Value) (x:Value×Nat)=>cs.setIfInBounds (off + x.2) x.1) cells).toList = cells.toList.take (off + k) ++ vs ++ cells.toList.drop (off + k + vs.length)
 | [],k,off,cells,h=>by simp
 | v :: vs,k,off,cells,h=>by
  simp only [List.length_cons] at h
  rw [List.zipIdx_cons,List.foldl_cons,fold_set vs (k + 1) off _ (by simp;omega)]
  simp only [Array.toList_setIfInBounds]
  refine List.ext_getElem? fun q=>?_
  have hs:cells.size = cells.toList.length:=by simp
  rw [show off + (k + 1) = off + k + 1 by omega]
  have e1:=put_nth (cells.toList.set (off + k) v) (off + k + 1) vs q (by rw [List.length_set];omega)
  have e2:=put_nth cells.toList (off + k) (v :: vs) q (by simp only [List.length_cons];omega)
  rw [e1,e2]
  simp only [List.length_cons]
  by_cases h1:off + k + 1 ≤ q∧q < off + k + 1 + vs.length
  ·rw [if_pos h1,if_pos (by omega),show q - (off + k) = (q - (off + k + 1)) + 1 by omega];rfl
  ·rw [if_neg h1,List.getElem?_set]
   by_cases h2:off + k = q
   ·rw [if_pos h2,if_pos (by omega),if_pos (by omega),← h2,Nat.sub_self];rfl
   ·rw [if_neg h2,if_neg (by omega)]
theorem fold_cells (V:Value) (off:Nat) (cells:Array Value) (h:off + V.cells.size ≤ cells.size) :
  (V.cells.zipIdx.foldl (fun cs (c,j)=>cs.setIfInBounds (off + j) c) cells).toList = cells.toList.take off ++ V.cells.toList ++ cells.toList.drop (off + V.cells.toList.length):=by
 rw [← Array.foldl_toList,Array.toList_zipIdx]
 exact fold_set V.cells.toList 0 off cells (by simpa using h)
def PartR (g:Gh) (hp:HP) (x:Nat×SV) (y:Nat×Value):Prop:=x.1 = y.1∧SVR g hp x.2 y.2
theorem fill_does {place:Nat→Option (Nat×Nat)} {placeM:Nat→Option (Nat×Nat)} (hpl:∀ i x,placeM i = some x→place i = some x):∀ (ps:List (Nat×SV)) (vs:List (Nat×Value)) (cs cs':List CV) (cells:Array Value),
  All2 (PartR g w.heap) ps vs→All2 (VR g w.heap) cs cells.toList→fillCs placeM cs ps = some cs'→∃ cells',Instr.fill place cells vs = some cells'∧All2 (VR g w.heap) cs' cells'.toList
 | [],[],cs,cs',cells,_,hc,h=>by simp only [fillCs,Option.some.injEq] at h;subst h;exact ⟨cells,rfl,hc⟩
 | (i,.v a) :: ps,(i',V) :: vs,cs,cs',cells,⟨⟨hi,hV⟩,hps⟩,hc,h=>by
  simp only at hi hV
  subst hi
  simp only [fillCs] at h
  cases h1:placeM i with
  | none=>rw [h1] at h;cases h
  | some p =>
   obtain ⟨off,size⟩:=p
   rw [h1] at h
   simp only at h
   cases hf:fits (avCs a) size with
   | false=>rw [hf] at h;cases h
   | true =>
    rw [hf] at h
    obtain ⟨f1,f2⟩:=fits_spec hf
    simp only at h
    split at h
    ·rename_i cs2 hc2
     have hv2:=avCs_VR (A:=a) hV f2
     have hlen:=All2.length hv2
     obtain ⟨h3,h4⟩:=put_VR hc hv2 hc2
     have hsz:V.cells.size = size:=by rw [← f1,hlen];simp
     have hle:off + V.cells.size ≤ cells.size:=by simpa using h4
     obtain ⟨cells',h5,h6⟩:=fill_does hpl ps vs cs2 cs' (V.cells.zipIdx.foldl (fun cs (c,j)=>cs.setIfInBounds (off + j) c) cells) hps (by rw [fold_cells V off cells hle];exact h3) h
     refine ⟨cells',?_,h6⟩
     simp only [Instr.fill,hpl i _ h1]
     rw [if_neg (by simp only [hsz,ne_eq,not_true_eq_false,Bool.or_eq_true,decide_eq_true_eq,false_or];omega)]
     exact h5
    ·cases h
 | (_,.tup _) :: _,_,_,_,_,_,_,h=>by simp [fillCs] at h
 | [],_ :: _,_,_,_,h,_,_=>h.elim
 | _ :: _,[],_,_,_,h,_,_=>h.elim
theorem mapM_places (fs:Array Field) (h:∀ f ∈ fs.toList,(P.info? f.type).isSome = true):(fs.mapM fun f=>do pure (f.offset,← sizeOf f.type):Sem (Array (Nat×Nat))).run P w = .ok (fs.map fun f=>(f.offset,P.cellsOf f.type)) w:=by
 have key:∀ l:List Field,(∀ f ∈ l,(P.info? f.type).isSome = true)→(l.mapM fun f=>do pure (f.offset,← sizeOf f.type):Sem (List (Nat×Nat))).run P w = .ok (l.map fun f=>(f.offset,P.cellsOf f.type)) w:=by
  intro l
  induction l with
  | nil=>intro _;rfl
  | cons f l ih =>
   intro hl
   obtain ⟨i,hi⟩:=Option.isSome_iff_exists.1 (hl f (by simp))
   simp only [List.mapM_cons,Sem.run_bind,run_sizeOf w hi,Result.andThen_ok,Sem.run_pure,ih fun f' hf'=>hl f' (by simp [hf']),List.map_cons]
 rw [← Array.toArray_toList (xs:=fs),List.mapM_toArray,Sem.run_map,key fs.toList h]
 simp only [Result.andThen_ok,Array.toArray_toList]
 congr 1
 apply Array.ext'
 simp
theorem build_does {tis:List (Nat×TI)} {t:Nat} {i:TI} {ps:List (Nat×SV)} {vs:List (Nat×Value)} {cs:List CV} (T:TIs P tis) (ht:TIok P t i) (hagg:i.agg = true) (hps:All2 (PartR g w.heap) ps vs) (hc:fillCs (placeOf tis i) i.zero ps = some cs) :
  ∃ V,(Instr.build t vs.toArray).run P w = .ok V w∧SVR g w.heap (.v (.agg cs)) V:=by
 obtain ⟨z,hz1,hz2⟩:=zero_run ht w
 have hz:All2 (VR g w.heap) i.zero z.cells.toList:=by rw [hz1];exact zero_VR g w.heap i.zero ht.zok
 cases hu:i.und with
 | struct fs =>
  obtain ⟨a,ha,hfs⟩:=fields_of ht hu
  have hfl:=ht.flds
  rw [hu] at hfl
  have hinfo:∀ f ∈ a.toList,(P.info? f.type).isSome = true:=fun f hf=>by
   simp only [List.all_eq_true] at hfl
   exact hfl (f.offset,f.type) (by rw [← hfs];exact List.mem_map.2 ⟨f,hf,rfl⟩)
  obtain ⟨cells,h1,h2⟩:=fill_does (place:=((a.map fun f=>(f.offset,P.cellsOf f.type))[·]?)) (placeM:=placeOf tis i) (fun k x hx=>by
   unfold placeOf at hx
   rw [hu] at hx
   simp only at hx
   cases hn:nthF fs k with
   | none=>rw [hn] at hx;cases hx
   | some p =>
    obtain ⟨off,ft⟩:=p
    rw [hn] at hx
    simp only at hx
    cases hq:tget tis ft with
    | none=>rw [hq] at hx;cases hx
    | some q =>
     rw [hq] at hx
     simp only [Option.some.injEq] at hx
     subst hx
     obtain ⟨a',y,e1,e2,e3,e4⟩:=field_of ht hu hn
     rw [ha] at e1
     cases e1
     have hcell:P.cellsOf ft = q.size:=by
      obtain ⟨x,d,z',k1,k2,_⟩:=(T ft q hq).get
      simp only [Program.cellsOf,k1,Option.map_some,Option.getD_some,k2]
     simp only [Array.getElem?_map,e2,Option.map_some,e3,e4,hcell]) ps vs i.zero cs z.cells hps hz hc
  refine ⟨.agg cells,?_,cells.toList,by simp,h2⟩
  simp only [Instr.build,Sem.run_bind,hz2,Result.andThen_ok,run_underlying ha,mapM_places a hinfo,h1,Sem.run_pure]
 | arr n e =>
  obtain ⟨d,hd,hu2⟩:=und_run ht
  rw [hu] at hu2
  cases d <;> first | (cases hu2;done) | skip
  rename_i n' e'
  obtain ⟨rfl,rfl⟩:n = n'∧e = e':=by (injection hu2 with a b;exact ⟨a.symm,b.symm⟩)
  have hfl:=ht.flds
  rw [hu] at hfl
  obtain ⟨ie,hie⟩:=Option.isSome_iff_exists.1 hfl
  obtain ⟨cells,h1,h2⟩:=fill_does (place:=fun i=>some (i * P.cellsOf e,P.cellsOf e)) (placeM:=placeOf tis i) (fun k x hx=>by
   unfold placeOf at hx
   rw [hu] at hx
   simp only at hx
   cases hq:tget tis e with
   | none=>rw [hq] at hx;cases hx
   | some q =>
    rw [hq] at hx
    simp only [Option.some.injEq] at hx
    subst hx
    have hcell:P.cellsOf e = q.size:=by
     obtain ⟨x,d,z',k1,k2,_⟩:=(T e q hq).get
     simp only [Program.cellsOf,k1,Option.map_some,Option.getD_some,k2]
    rw [hcell]) ps vs i.zero cs z.cells hps hz hc
  refine ⟨.agg cells,?_,cells.toList,by simp,h2⟩
  simp only [Instr.build,Sem.run_bind,hz2,Result.andThen_ok,run_underlying hd,run_sizeOf w hie,h1,Sem.run_pure]
 | _=>simp [TI.agg,hu] at hagg
theorem rep_nth {k:Nat} (cs:List CV) (hk:cs.length = k):∀ (n q:Nat),q < n * k→(repCs cs n)[q]? = cs[q % k]?
 | 0,q,h=>by simp at h
 | n + 1,q,h=>by
  simp only [repCs]
  by_cases hq:q < k
  ·rw [List.getElem?_append_left (by omega),Nat.mod_eq_of_lt hq]
  ·have h':q - k < n * k:=by rw [Nat.add_mul,Nat.one_mul] at h;omega
   rw [List.getElem?_append_right (by omega),hk,rep_nth cs hk n (q - k) h']
   congr 1
   exact (Nat.mod_eq_sub_mod (by omega)).symm
theorem rep_len (cs:List CV):∀ n,(repCs cs n).length = n * cs.length
 | 0=>by simp [repCs]
 | n + 1=>by simp only [repCs,List.length_append,rep_len cs n,Nat.add_mul,Nat.one_mul];omega
theorem made_nth (z:Array Value) (n q:Nat) (h:q < n * z.size) (hz:0 < z.size):(madeCells z (n * z.size)).toList[q]? = z.toList[q % z.size]?:=by
 have hm:q % z.size < z.size:=Nat.mod_lt _ hz
 simp only [madeCells,Array.toList_map,Array.toList_range,List.getElem?_map,List.getElem?_range h,Option.map_some]
 rw [Array.getElem?_toList,Array.getElem?_eq_getElem hm]
 simp [hm]
theorem made_VR {hp:HP} {cs:List CV} {z:Array Value} (h:All2 (VR g hp) cs z.toList) (n:Nat) (hz:0 < z.size):All2 (VR g hp) (repCs cs n) (madeCells z (n * z.size)).toList:=by
 have hl:=All2.length h
 have hl':cs.length = z.size:=by simpa using hl
 refine All2.of_nth _ _ (fun q c hc=>?_) (by rw [rep_len,hl'];simp [size_madeCells])
 have hq:q < n * z.size:=by have:=(List.getElem?_eq_some_iff.1 hc).1;rw [rep_len,hl'] at this;exact this
 rw [rep_nth cs hl' n q hq] at hc
 obtain ⟨y,h1,h2⟩:=All2.get _ h hc
 exact ⟨y,by rw [made_nth z n q hq hz];exact h1,h2⟩
theorem made_RdL {ro:Nat→Prop} {hp:HP} {e:Ty} {x:e.T} {z:Array Value} (h:Rd ro hp e x z.toList) (n c:Nat) (hnc:n ≤ c):∃ us rest,(madeCells z (c * z.size)).toList = us ++ rest∧RdL (Rd ro hp e) (List.replicate n x) us:=by
 have hz:z.size = e.size:=by have:=Rd.length e _ _ h;simpa using this
 have hpos:0 < z.size:=by rw [hz];exact e.size_pos
 have key:∀ n,(madeCells z (n * z.size)).toList = (List.replicate n z.toList).flatten:=fun n=>by
  refine List.ext_getElem? fun q=>?_
  by_cases hq:q < n * z.size
  ·rw [made_nth z n q hq hpos]
   clear hnc
   induction n generalizing q with
   | zero=>simp at hq
   | succ n ih =>
    rw [List.replicate_succ,List.flatten_cons]
    by_cases hq2:q < z.size
    ·rw [List.getElem?_append_left (by simpa using hq2),Nat.mod_eq_of_lt hq2]
    ·have h':q - z.size < n * z.size:=by rw [Nat.add_mul,Nat.one_mul] at hq;omega
     rw [List.getElem?_append_right (by simp;omega),Array.length_toList,← ih _ h',Nat.mod_eq_sub_mod (by omega)]
  ·rw [List.getElem?_eq_none (by simp [size_madeCells];omega),List.getElem?_eq_none (by simp;omega)]
 refine ⟨(List.replicate n z.toList).flatten,(List.replicate (c - n) z.toList).flatten,?_,RdL.replicate h n⟩
 rw [key,← List.flatten_append,List.replicate_append_replicate,show n + (c - n) = c by omega]
theorem Post.of_parts {w':World} {g':Gh} {V:Value} {H2:HF} (a:Ext mt g w g' w) (b:∀ n,g'.φ n = g.φ n) (c:Post mt g' w base H2 v V w'):Post mt g w base H2 v V w':=by
 obtain ⟨g2,h1,h2,h3,h4⟩:=c
 exact ⟨g2,a.trans h1,fun n hn=>(h2 n hn).trans (b n),h3,h4⟩
theorem Post.of_parts' {w':World} {g':Gh} {V:Value} {H2:HF} (a:Ext mt g w g' w) (b:∀ n,g'.φ n = g.φ n) (c:Post mt g' w base H2 v V w'):Post mt g w base H2 v V w':=Post.of_parts a b c
theorem rowsIn_does:∀ (e:Ty) (cs:List CV) (vs:List Value) (g:Gh) (H:HF) (fp:FP) (r:List CV×List CV),Mem mt g H w.heap→All2 (VR g w.heap) cs vs→(rowsIn e cs).eval base H fp = some (r,H',fp') →
  ∃ g',Ext mt g w g' w∧(∀ n,g'.φ n = g.φ n)∧Mem mt g' H' w.heap∧∃ us us',vs = us ++ us'∧All2 (VR g' w.heap) r.1 us∧All2 (VR g' w.heap) r.2 us':=by
 intro e
 induction e generalizing H' fp' with
 | prod a b iha ihb =>
  intro cs vs g H fp r M hv h
  simp only [rowsIn,MA.eval_bind] at h
  cases h1:(rowsIn a cs).eval base H fp with
  | none=>rw [h1] at h;cases h
  | some x =>
   obtain ⟨x,H1,fp1⟩:=x
   rw [h1] at h
   simp only at h
   cases h2:(rowsIn b x.2).eval base H1 fp1 with
   | none=>rw [h2] at h;cases h
   | some y =>
    obtain ⟨y,H2,fp2⟩:=y
    rw [h2] at h
    simp only [MA.eval,Option.some.injEq,Prod.mk.injEq] at h
    obtain ⟨rfl,rfl,rfl⟩:=h
    obtain ⟨g1,e1,p1,M1,us,us',k1,k2,k3⟩:=iha cs vs g H fp x M hv h1
    obtain ⟨g2,e2,p2,M2,ws,ws',l1,l2,l3⟩:=ihb x.2 us' g1 H1 fp1 y M1 k3 h2
    exact ⟨g2,e1.trans e2,fun n=>(p2 n).trans (p1 n),M2,us ++ ws,ws',by rw [k1,l1,List.append_assoc],All2.append (All2.mono (VR.stab (e2.stab M1.ro)) _ _ k2) l2,l3⟩
 | row e _ =>
  intro cs vs g H fp r M hv h
  have plain:∀ c cs',cs = c :: cs'→r = ([c],cs')→H' = H→∃ g',Ext mt g w g' w∧(∀ n,g'.φ n = g.φ n)∧Mem mt g' H' w.heap∧∃ us us',vs = us ++ us'∧All2 (VR g' w.heap) r.1 us∧All2 (VR g' w.heap) r.2 us':=fun c cs' hc hr hH=>by
   subst hc hr hH
   match vs,hv with
   | u :: vs,⟨hu,hv⟩=>exact ⟨g,Ext.refl _ _ _,fun _=>rfl,M,[u],vs,rfl,⟨hu,trivial⟩,hv⟩
  have taken:∀ n (e':Ty) (l:List e'.T) (u:Value) (Q:Pl),VR g w.heap (.own n) u→g.φ n = some Q→ArrR g w.heap Q e' l→(∀ b,Q.blk = some b→g.ro b)→VR g w.heap (.row e' l) u:=fun n e' l u Q hu hQ hA hro=>by
   obtain ⟨Q',hQ',rfl⟩:=hu
   rw [hQ] at hQ'
   cases hQ'
   refine ⟨Q.base,Q.cap,by rw [hA.1],by rw [← hA.1];exact hA.2.2.1,fun hl=>?_⟩
   obtain ⟨b,cs,t,fz,us,rest,h1,h2,h3,h4⟩:=arr_row hA hl
   refine ⟨b,0,cs,t,fz,us,rest,h1,?_,h2,by rw [List.drop_zero,h3],h4⟩
   obtain ⟨a1,a2,a3,a4⟩:=hA
   cases hb:Q.blk with
   | none=>rw [hb] at a4;rw [a4.2.2] at h1;cases h1
   | some b' =>
    rw [hb] at a4
    rw [a4.1] at h1
    cases h1
    exact hro b hb
  cases cs with
  | nil=>simp [rowsIn,MA.eval] at h
  | cons c cs' =>
   cases c with
   | own n =>
    simp only [rowsIn] at h
    obtain ⟨o,ho,h⟩:=get_eval h
    obtain ⟨Q,hQ,hO⟩:=M.obj n o ho
    match vs,hv with
    | u :: vs,⟨hu,hv⟩ =>
     split at h
     ·rename_i e' l
      simp only [MA.eval,ho,Option.some.injEq,Prod.mk.injEq] at h
      obtain ⟨rfl,rfl,rfl⟩:=h
      have M':=M.freeze ho hQ
      have ex:Ext mt g w ⟨g.φ,fun b=>g.ro b ∨ Q.blk = some b⟩ w:=⟨rfl,rfl,rfl,Nat.le_refl _,fun _ _ _=>rfl,fun _ h=>.inl h,fun b hb=>hb.imp id fun he=>(M.own n _ Q b ho rfl hQ he).1,fun _ _ h=>h⟩
      refine ⟨_,ex,fun _=>rfl,M',[u],vs,rfl,⟨?_,trivial⟩,All2.mono (VR.stab (ex.stab M.ro)) _ _ hv⟩
      obtain ⟨Q',hQ',hO'⟩:=M'.obj n _ (upd_same _ _ _)
      have:Q' = Q:=by rw [show (⟨g.φ,fun b=>g.ro b ∨ Q.blk = some b⟩:Gh).φ n = g.φ n from rfl,hQ] at hQ';exact (Option.some.inj hQ').symm
      subst this
      have hu':VR ⟨g.φ,fun b=>g.ro b ∨ Q'.blk = some b⟩ w.heap (.own n) u:=hu
      obtain ⟨Q2,hQ2,rfl⟩:=hu'
      have:Q2 = Q':=by rw [show (⟨g.φ,fun b=>g.ro b ∨ Q'.blk = some b⟩:Gh).φ n = g.φ n from rfl,hQ] at hQ2;exact (Option.some.inj hQ2).symm
      subst this
      have hA:ArrR _ w.heap Q2 e' l:=hO'
      refine ⟨Q2.base,Q2.cap,by rw [hA.1],by rw [← hA.1];exact hA.2.2.1,fun hl=>?_⟩
      obtain ⟨b,cs,t,fz,us,rest,h1,h2,h3,h4⟩:=arr_row hA hl
      refine ⟨b,0,cs,t,fz,us,rest,h1,.inr ?_,h2,by rw [List.drop_zero,h3],h4⟩
      obtain ⟨a1,a2,a3,a4⟩:=hA
      cases hb:Q2.blk with
      | none=>rw [hb] at a4;rw [a4.2.2] at h1;cases h1
      | some b'=>rw [hb] at a4;rw [a4.1] at h1;cases h1;rfl
     ·rename_i e' l
      simp only [MA.eval,Option.some.injEq,Prod.mk.injEq] at h
      obtain ⟨rfl,rfl,rfl⟩:=h
      exact ⟨g,Ext.refl _ _ _,fun _=>rfl,M,[u],vs,rfl,⟨taken n e' l u Q hu hQ hO fun b hb=>M.ice n _ Q b ho rfl hQ hb,trivial⟩,hv⟩
     ·exact (fail_eval h).elim
   | _=>simp only [rowsIn,MA.eval,Option.some.injEq,Prod.mk.injEq] at h;exact plain _ cs' rfl h.1.symm h.2.1.symm
 | _ =>
  intro cs vs g H fp r M hv h
  cases cs with
  | nil=>simp [rowsIn,MA.eval] at h
  | cons c cs' =>
   simp only [rowsIn,MA.eval,Option.some.injEq,Prod.mk.injEq] at h
   obtain ⟨rfl,rfl,rfl⟩:=h
   match vs,hv with
   | u :: vs,⟨hu,hv⟩=>exact ⟨g,Ext.refl _ _ _,fun _=>rfl,M,[u],vs,rfl,⟨hu,trivial⟩,hv⟩
theorem rowsInL_does (e:Ty):∀ (n:Nat) (cs:List CV) (vs:List Value) (g:Gh) (H H':HF) (fp fp':FP) (r:List CV),Mem mt g H w.heap→All2 (VR g w.heap) cs vs→(rowsInL e n cs).eval base H fp = some (r,H',fp') →
  ∃ g',Ext mt g w g' w∧(∀ n,g'.φ n = g.φ n)∧Mem mt g' H' w.heap∧All2 (VR g' w.heap) r vs
 | 0,[],vs,g,H,H',fp,fp',r,M,hv,h=>by
  simp only [rowsInL,MA.eval,Option.some.injEq,Prod.mk.injEq] at h
  obtain ⟨rfl,rfl,rfl⟩:=h
  exact ⟨g,Ext.refl _ _ _,fun _=>rfl,M,hv⟩
 | 0,_ :: _,_,_,_,_,_,_,_,_,_,h=>by simp [rowsInL,MA.eval] at h
 | n + 1,cs,vs,g,H,H',fp,fp',r,M,hv,h=>by
  simp only [rowsInL,MA.eval_bind] at h
  cases h1:(rowsIn e cs).eval base H fp with
  | none=>rw [h1] at h;cases h
  | some x =>
   obtain ⟨x,H1,fp1⟩:=x
   rw [h1] at h
   simp only at h
   cases h2:(rowsInL e n x.2).eval base H1 fp1 with
   | none=>rw [h2] at h;cases h
   | some y =>
    obtain ⟨y,H2,fp2⟩:=y
    rw [h2] at h
    simp only [MA.eval,Option.some.injEq,Prod.mk.injEq] at h
    obtain ⟨rfl,rfl,rfl⟩:=h
    obtain ⟨g1,e1,p1,M1,us,us',k1,k2,k3⟩:=rowsIn_does e cs vs g H fp x M hv h1
    obtain ⟨g2,e2,p2,M2,l2⟩:=rowsInL_does e n x.2 us' g1 H1 H2 fp1 fp2 y M1 k3 h2
    exact ⟨g2,e1.trans e2,fun n=>(p2 n).trans (p1 n),M2,by rw [k1];exact All2.append (All2.mono (VR.stab (e2.stab M1.ro)) _ _ k2) l2⟩
end
end Go.Proofs.YthdgahpomhnidaaGreat.Mx
/- The interpreter's slices that are made and appended to are the model's (own work). -/
namespace Go.Proofs.YthdgahpomhnidaaGreat.Mx
open Go
set_option autoImplicit false
set_option linter.unusedVariables false
set_option linter.unusedSimpArgs false
variable {P:Program}
section
variable {mt:Nat→Prop} {g:Gh} {H H':HF} {w:World} {base:Nat} {fp fp':FP} {v:SV}
theorem elem_eval {tis:List (Nat×TI)} {t:Nat} {k:Ty→TI→MA SV} (T:TIs P tis) (h:(elemM tis t k).eval base H fp = some (v,H',fp')) :
  ∃ i e j ty,tget tis t = some i∧TIok P t i∧i.und = .slice e∧TIok P e j∧j.ty = some ty∧(k ty j).eval base H fp = some (v,H',fp'):=by
 unfold elemM at h
 split at h
 ·rename_i i hi
  split at h
  ·rename_i e he
   split at h
   ·rename_i j hj
    split at h
    ·rename_i ty hty
     exact ⟨i,e,j,ty,hi,T _ _ hi,he,T _ _ hj,hty,h⟩
    ·exact (fail_eval h).elim
   ·exact (fail_eval h).elim
  ·exact (fail_eval h).elim
 ·exact (fail_eval h).elim
theorem ty_of {e:Nat} {j:TI} {ty:Ty} (hj:TIok P e j) (h:j.ty = some ty):ty.zeroV = j.zero.map rawV∧ty.size = j.size:=by
 have h1:=hj.ty
 have h2:=hj.tysz
 rw [h] at h1 h2
 simp only [Option.map_some,Option.some.injEq] at h1 h2
 exact ⟨h1,h2⟩
theorem slice_und {t e:Nat} {i:TI} (ht:TIok P t i) (hu:i.und = .slice e):P.underlying t = some (.slice e):=by
 obtain ⟨d,hd,hu2⟩:=und_run ht
 rw [hu] at hu2
 cases d <;> first | (cases hu2;done) | (injection hu2 with hu2;subst hu2)
 exact hd
theorem new_eval {s:Nat} {o:Obj} {m:MA SV} (h:(MA.new s o m).eval base H fp = some (v,H',fp')):∃ fp2,H (base + s) = none∧s < keys∧m.eval base (upd H (base + s) (some o)) fp2 = some (v,H',fp'):=by
 simp only [MA.eval] at h
 cases ho:H (base + s) with
 | some _=>rw [ho] at h;cases h
 | none =>
  rw [ho] at h
  simp only at h
  by_cases hs:s < keys
  ·rw [if_pos hs] at h;exact ⟨_,rfl,hs,h⟩
  ·rw [if_neg hs] at h;cases h
theorem make_does {t e:Nat} {i j:TI} {ty:Ty} {x y:SV} {X Y:Value} (ht:TIok P t i) (hu:i.und = .slice e) (he:TIok P e j) (hty:j.ty = some ty) (M:Mem mt g H w.heap) (hm:∀ b,w.heap.size ≤ b→mt b) (hf:∀ n,base ≤ n→n < base + keys→g.φ n = none)
  (hx:SVR g w.heap x X) (hy:SVR g w.heap y Y) (h:(makeM ty j.bytes x y).eval base H fp = some (v,H',fp')):Makes P mt g H' w base v (Instr.makeSlice t X Y):=by
 unfold makeM at h
 split at h
 ·rename_i k1 n k2 c
  obtain rfl:X = _:=hx
  obtain rfl:Y = _:=hy
  rcases cond_eval h with ⟨hr,h⟩ | ⟨_,h⟩
  ·simp only [decide_eq_true_eq] at hr
   obtain ⟨n0,nc,cl⟩:=hr
   obtain ⟨info,d,z,h1,h2,h3,h4,h5,h6,h7⟩:=he.get
   obtain ⟨zv,zs⟩:=ty_of he hty
   have hzs:z.cells.size = info.size:=by
    have:=congrArg List.length h5
    rw [List.length_map,he.zlen] at this
    rw [h2];simpa using this
   have hbyte:(info.bytes:Int) * c ≤ 281474976710656:=by
    rw [h3]
    have h8:j.bytes * (140737488355328 / j.bytes) ≤ 140737488355328:=Nat.mul_div_le _ _
    have h9:(j.bytes:Int) * c ≤ (j.bytes:Int) * ((140737488355328 / j.bytes:Nat):Int):=Int.mul_le_mul_of_nonneg_left cl (by omega)
    have h10:((j.bytes * (140737488355328 / j.bytes):Nat):Int) ≤ 140737488355328:=by omega
    rw [Int.natCast_mul] at h10
    omega
   have hc63:c ≤ 9223372036854775807:=by
    have:limit j.bytes ≤ 140737488355328:=Nat.div_le_self _ _
    omega
   have hrun:=run_make (P:=P) w t e info z (slice_und ht hu) h1 h4 k1 k2 n c n0 nc hbyte hc63
   simp only [MA.eval] at h
   obtain ⟨fp2,ho,hs,h⟩:=new_eval h
   obtain ⟨rfl,rfl⟩:=ret_eval h
   let Q:Pl:=⟨some w.heap.size,some ⟨w.heap.size,0,none⟩,n.toNat,c.toNat,ty.size⟩
   refine ⟨_,_,hrun,?_⟩
   have hfr:=hf (base + 0) (by omega) (by have:=keys_pos;omega)
   have hR:Rd g.ro w.heap ty ty.dflt z.cells.toList:=by rw [h5,← zv];exact Rd.dflt _ _ ty
   have st:Stab g w.heap (updφ g (base + 0) Q) (w.heap.push (.cells (madeCells z.cells (c.toNat * info.size)) e)):=⟨fun _ h=>h,fun b hb=>push_old _ _ _ (M.ro b hb),updφ_phi hfr⟩
   obtain ⟨us,rest,k3,k4⟩:=made_RdL (n:=n.toNat) (c:=c.toNat) hR (by omega)
   rw [hzs] at k3
   refine Post.new (Q:=Q) M hm rfl rfl rfl rfl hfr hs rfl rfl ?_ ⟨Q,updφ_same g _ Q,rfl⟩
   refine ⟨by simp [Q],rfl,by show n.toNat ≤ c.toNat;omega,rfl,_,e,us,rest,push_new _ _,k3,RdL.mono (fun x vs=>Rd.stab st.ro st.hp ty x vs) _ _ k4,?_⟩
   show c.toNat * ty.size ≤ _
   rw [size_madeCells,h2,zs]
   exact Nat.le_refl _
  ·exact (fail_eval h).elim
 ·exact (fail_eval h).elim
theorem buildSlice_does {t e n:Nat} {i j:TI} {ty:Ty} {ps:List (Nat×SV)} {vs:List (Nat×Value)} {cs:List CV} (ht:TIok P t i) (hu:i.und = .slice e) (he:TIok P e j) (hty:j.ty = some ty) (M:Mem mt g H w.heap) (hm:∀ b,w.heap.size ≤ b→mt b) (hf:∀ n,base ≤ n→n < base + keys→g.φ n = none)
  (hps:All2 (PartR g w.heap) ps vs) (hc:fillCs (fun i=>some (i * j.size,j.size)) (repCs j.zero n) ps = some cs) (hn:Nat.ble (n * j.size) 16777216 = true)
  (h:((rowsInL ty n cs).bind fun cs'=>match ty.decL n cs' with
   | some l=>.base fun b=>.new 0 (.arr ty l) (ret (.own b))
   | none=>.fail).eval base H fp = some (v,H',fp')):Makes P mt g H' w base v (Instr.buildSlice t n vs.toArray):=by
 obtain ⟨info,d,z,h1,h2,h3,h4,h5,h6,h7⟩:=he.get
 obtain ⟨zv,zs⟩:=ty_of he hty
 have hzs:z.cells.size = info.size:=by
  have:=congrArg List.length h5
  rw [List.length_map,he.zlen] at this
  rw [h2];simpa using this
 have hpos:0 < info.size:=by rw [h2,← zs];exact ty.size_pos
 have hz:All2 (VR g w.heap) j.zero z.cells.toList:=by rw [h5];exact zero_VR g w.heap j.zero he.zok
 have hinit:All2 (VR g w.heap) (repCs j.zero n) (madeCells z.cells (n * info.size)).toList:=by rw [← hzs];exact made_VR hz n (by rw [hzs];exact hpos)
 obtain ⟨cells,f1,f2⟩:=fill_does (place:=fun i=>some (i * info.size,info.size)) (fun k x hx=>by rw [h2];exact hx) ps vs _ cs _ hps hinit hc
 have hrun:(Instr.buildSlice t n vs.toArray).run P w = .ok (.slice (some ⟨w.heap.size,0,none⟩) n n) (w.alloc (.cells cells e)):=by
  by_cases hn0:n = 0
  ·subst hn0
   have hf1:Instr.fill (fun i=>some (i * info.size,info.size)) #[] vs = some cells:=by
    have e0:madeCells z.cells (0 * info.size) = #[]:=by simp [madeCells]
    rw [e0] at f1;exact f1
   simp only [Instr.buildSlice,Sem.run_bind,run_underlying (slice_und ht hu),Result.andThen_ok,sizeOf_run he,Nat.zero_mul,Nat.not_lt_zero,gt_iff_lt,if_false,Sem.run_pure,if_true]
   have e1:∀ (f:Nat→Value),(Array.range 0).map f = #[]:=fun f=>by simp
   rw [← h2,e1,hf1]
   simp only [newRow,Sem.run_bind,run_newObj,Result.andThen_ok,Sem.run_pure]
   rfl
  ·refine run_buildSlice (P:=P) w t e n vs.toArray cells info z (slice_und ht hu) h1 h4 ?_ ?_ (by exact f1)
   ·have:=Nat.le_of_ble_eq_true hn;rw [h2];omega
   ·intro hh
    rcases Nat.mul_eq_zero.1 hh with h' | h'
    ·exact hn0 h'
    ·omega
 rw [MA.eval_bind] at h
 cases hr:(rowsInL ty n cs).eval base H fp with
 | none=>rw [hr] at h;cases h
 | some p =>
  obtain ⟨cs',H1,fp1⟩:=p
  rw [hr] at h
  simp only at h
  obtain ⟨g1,e1,p1,M1,hv1⟩:=rowsInL_does ty n cs _ g H H1 fp fp1 cs' M f2 hr
  split at h
  ·rename_i l hl
   simp only [MA.eval] at h
   obtain ⟨fp2,ho,hs,h⟩:=new_eval h
   obtain ⟨rfl,rfl⟩:=ret_eval h
   obtain ⟨k1,k2⟩:=decL_Rd n cs' _ l hv1 hl
   let Q:Pl:=⟨some w.heap.size,some ⟨w.heap.size,0,none⟩,n,n,ty.size⟩
   refine ⟨_,_,hrun,?_⟩
   have hfr:g1.φ (base + 0) = none:=by rw [p1];exact hf (base + 0) (by omega) (by have:=keys_pos;omega)
   have st:Stab g1 w.heap (updφ g1 (base + 0) Q) (w.heap.push (.cells cells e)):=⟨fun _ h=>h,fun b hb=>push_old _ _ _ (M1.ro b hb),updφ_phi hfr⟩
   refine Post.of_parts' e1 p1 (Post.new (Q:=Q) M1 hm rfl rfl rfl rfl hfr hs rfl rfl ?_ ⟨Q,updφ_same g1 _ Q,rfl⟩)
   refine ⟨by simp [Q,k2],rfl,Nat.le_refl _,rfl,_,e,cells.toList,[],push_new _ _,by simp,RdL.mono (fun x vs=>Rd.stab st.ro st.hp ty x vs) _ _ k1,?_⟩
   have:=RdL.length l _ k1
   rw [k2] at this
   show n * ty.size ≤ cells.size
   rw [← this];simp
  ·exact (fail_eval h).elim
theorem more_does {ty:Ty} {y:SV} {Y:Value} {more:List ty.T} (M:Mem mt g H w.heap) (hy:SVR g w.heap y Y) (h:(moreM ty y).eval base H fp = some (more,H',fp')) :
  H' = H∧∃ A c,Y = .slice A more.length c∧(more ≠ []→∃ b o us,A = some ⟨b,o,none⟩∧(∀ q u,us[q]? = some u→w.cell? ⟨b,o + q,none⟩ = some u)∧RdL (Rd g.ro w.heap ty) more us):=by
 unfold moreM at h
 split at h
 ·rename_i e' l
  split at h
  ·rename_i q
   subst q
   simp only [MA.eval,Option.some.injEq,Prod.mk.injEq] at h
   obtain ⟨rfl,rfl,_⟩:=h
   obtain ⟨A,c,hv,hc,hrow⟩:=(hy:Rd g.ro w.heap (.row e') l [Y])
   simp only [List.cons.injEq,and_true] at hv
   refine ⟨rfl,A,c,hv,fun hl=>?_⟩
   obtain ⟨b,o,cs,t,fz,us,rest,h1,h2,h3,h4,h5⟩:=hrow hl
   exact ⟨b,o,us,h1,fun q u hu=>by rw [cell_blk h3,← List.getElem?_drop,h4,List.getElem?_append_left (List.getElem?_eq_some_iff.1 hu).1];exact hu,h5⟩
  ·cases h
 ·simp only [MA.eval,Option.some.injEq,Prod.mk.injEq] at h
  obtain ⟨rfl,rfl,_⟩:=h
  obtain rfl:Y = _:=hy
  exact ⟨rfl,none,0,rfl,fun hl=>absurd rfl hl⟩
 ·rename_i n
  obtain ⟨Q,hQ,rfl⟩:=(hy:VR g w.heap (.own n) Y)
  obtain ⟨o,ho,h⟩:=get_eval h
  obtain ⟨Q',hQ',hO⟩:=M.obj n o ho
  rw [hQ] at hQ'
  cases hQ'
  have fin:∀ l:List ty.T,ArrR g w.heap Q ty l→∃ A c,Value.slice Q.base Q.len Q.cap = .slice A l.length c∧(l ≠ []→∃ b o us,A = some ⟨b,o,none⟩∧(∀ q u,us[q]? = some u→w.cell? ⟨b,o + q,none⟩ = some u)∧RdL (Rd g.ro w.heap ty) l us):=fun l hA=>by
   refine ⟨Q.base,Q.cap,by rw [hA.1],fun hl=>?_⟩
   obtain ⟨b,cs,t,fz,us,rest,h1,h2,h3,h4⟩:=arr_row hA hl
   exact ⟨b,0,us,h1,fun q u hu=>by rw [cell_blk h2,Nat.zero_add,h3,List.getElem?_append_left (List.getElem?_eq_some_iff.1 hu).1];exact hu,h4⟩
  split at h
  ·rename_i e' l
   split at h
   ·rename_i q
    subst q
    simp only [MA.eval,Option.some.injEq,Prod.mk.injEq] at h
    obtain ⟨rfl,rfl,_⟩:=h
    exact ⟨rfl,fin l hO⟩
   ·cases h
  ·rename_i e' l
   split at h
   ·rename_i q
    subst q
    simp only [MA.eval,Option.some.injEq,Prod.mk.injEq] at h
    obtain ⟨rfl,rfl,_⟩:=h
    exact ⟨rfl,fin l hO⟩
   ·cases h
  ·cases h
 ·rename_i n lo hi
  obtain ⟨Q,A,c,hQ,hlo,hhi,hcap,rfl,hA⟩:=(hy:VR g w.heap (.sub n lo hi) Y)
  obtain ⟨o,ho,h⟩:=get_eval h
  obtain ⟨Q',hQ',hO⟩:=M.obj n o ho
  rw [hQ] at hQ'
  cases hQ'
  have fin:∀ l:List ty.T,ArrR g w.heap Q ty l→∃ A' c',Value.slice A (hi - lo) c = .slice A' ((l.take hi).drop lo).length c'∧((l.take hi).drop lo ≠ []→∃ b o us,A' = some ⟨b,o,none⟩∧(∀ q u,us[q]? = some u→w.cell? ⟨b,o + q,none⟩ = some u)∧RdL (Rd g.ro w.heap ty) ((l.take hi).drop lo) us):=fun l hAr=>by
   have hlen:((l.take hi).drop lo).length = hi - lo:=by rw [List.length_drop,List.length_take,← hAr.1];omega
   refine ⟨A,c,by rw [hlen],fun hl=>?_⟩
   have hlt:lo < hi:=by
    rcases Nat.lt_or_ge lo hi with h' | h'
    ·exact h'
    ·exact absurd (List.length_eq_zero_iff.1 (by rw [hlen];omega)) hl
   obtain ⟨b,hb1,hb2⟩:=hA hlt
   have hne:l ≠ []:=by rintro rfl;have:=hAr.1;simp at this;omega
   obtain ⟨b',cs,t,fz,us,rest,h1,h2,h3,h4⟩:=arr_row hAr hne
   obtain ⟨a1,a2,a3,a4⟩:=hAr
   rw [hb1] at a4
   rw [a4.1] at h1
   cases h1
   have hul:=RdL.length l us h4
   refine ⟨b,lo * Q.size,(us.take (hi * ty.size)).drop (lo * ty.size),hb2,fun q u hu=>?_,RdL.take_drop l us lo hi h4 (by omega)⟩
   rw [cell_blk h2,a2,h3,List.getElem?_append_left]
   ·rw [List.getElem?_drop,List.getElem?_take] at hu
    split at hu
    ·exact hu
    ·cases hu
   ·have:=(List.getElem?_eq_some_iff.1 hu).1
    rw [List.length_drop,List.length_take] at this
    omega
  split at h
  ·rename_i e' l
   split at h
   ·rename_i q
    subst q
    simp only [MA.eval,Option.some.injEq,Prod.mk.injEq] at h
    obtain ⟨rfl,rfl,_⟩:=h
    exact ⟨rfl,fin l hO⟩
   ·cases h
  ·rename_i e' l
   split at h
   ·rename_i q
    subst q
    simp only [MA.eval,Option.some.injEq,Prod.mk.injEq] at h
    obtain ⟨rfl,rfl,_⟩:=h
    exact ⟨rfl,fin l hO⟩
   ·cases h
  ·cases h
 ·cases h
end
end Go.Proofs.YthdgahpomhnidaaGreat.Mx
/- The interpreter's append is the model's (own work). -/
namespace Go.Proofs.YthdgahpomhnidaaGreat.Mx
open Go
set_option autoImplicit false
set_option linter.unusedVariables false
set_option linter.unusedSimpArgs false
variable {P:Program}
section
variable {mt:Nat→Prop} {g:Gh} {H H':HF} {w:World} {base:Nat} {fp fp':FP} {v:SV}
theorem Rd.one {ro:Nat→Prop} {hp:HP}:∀ (e:Ty) (x:e.T) (vs:List Value),Rd ro hp e x vs→∀ u ∈ vs,u.oneCell' = true
 | .int _,_,_,h,u,hu=>by rw [show _ = _ from h] at hu;simp at hu;subst hu;rfl
 | .bool,_,_,h,u,hu=>by rw [show _ = _ from h] at hu;simp at hu;subst hu;rfl
 | .str,_,_,h,u,hu=>by rw [show _ = _ from h] at hu;simp at hu;subst hu;rfl
 | .row e,l,_,⟨A,c,h,_⟩,u,hu=>by rw [h] at hu;simp at hu;subst hu;rfl
 | .prod a b,x,_,⟨p,q,h,h1,h2⟩,u,hu=>by
  rw [h] at hu
  rcases List.mem_append.1 hu with hu | hu
  ·exact Rd.one a x.1 p h1 u hu
  ·exact Rd.one b x.2 q h2 u hu
theorem RdL.one {ro:Nat→Prop} {hp:HP} {e:Ty}:∀ (l:List e.T) (vs:List Value),RdL (Rd ro hp e) l vs→∀ u ∈ vs,u.oneCell' = true
 | [],vs,h,u,hu=>by rw [show vs = [] from h] at hu;cases hu
 | x :: l,_,⟨p,q,h,h1,h2⟩,u,hu=>by
  rw [h] at hu
  rcases List.mem_append.1 hu with hu | hu
  ·exact Rd.one e x p h1 u hu
  ·exact RdL.one l q h2 u hu
theorem Post.move {w':World} {n s:Nat} {V:Value} {o o':Obj} {Q Q':Pl} (M:Mem mt g H w.heap) (hH:H n = some o) (hQ:g.φ n = some Q) (hi:o.iced = false) (hi':o'.iced = false) (hb:∀ b,Q'.blk = some b→Q.blk = some b)
  (hfr:g.φ (base + s) = none) (hs:s < keys) (hk:∀ c,Q.blk ≠ some c→w'.heap[c]? = w.heap[c]?) (hsz:w'.heap.size = w.heap.size) (h2:w'.os = w.os) (h3:w'.tape = w.tape) (h4:w'.output = w.output)
  (ho:Stab g w.heap (updφ g (base + s) Q') w'.heap→ObjR (updφ g (base + s) Q') w'.heap Q' o') (hv:SVR (updφ g (base + s) Q') w'.heap v V):Post mt g w base (upd (upd H n none) (base + s) (some o')) v V w':=by
 have hown:∀ b,Q.blk = some b→mt b∧¬ g.ro b:=fun b hb=>M.own n o Q b hH hi hQ hb
 have st:Stab g w.heap (updφ g (base + s) Q') w'.heap:=⟨fun _ h=>h,fun c hc=>hk c fun e=>(hown c e).2 hc,updφ_phi hfr⟩
 refine ⟨updφ g (base + s) Q',⟨h2,h3,h4,by rw [hsz];exact Nat.le_refl _,fun c hc hor=>hk c fun e=>hor.elim (fun h=>h (hown c e).1) (hown c e).2,fun _ h=>h,fun _ h=>.inl h,updφ_phi hfr⟩,fun m hm=>updφ_ne g Q' (by omega),?_,hv⟩
 have M1:=M.del n
 -- first the memory's change at n's block,then the new key
 have M2:Mem mt g (upd H n none) w'.heap:=by
  have st0:Stab g w.heap g w'.heap:=⟨fun _ h=>h,st.hp,fun _ _ h=>h⟩
  refine ⟨fun m o2 h=>?_,M1.own,M1.ice,M1.sep,fun b h=>by rw [hsz];exact M.ro b h⟩
  have hm:m ≠ n:=fun e=>by subst e;rw [upd_same] at h;cases h
  have hH2:H m = some o2:=by rw [upd_ne _ _ hm] at h;exact h
  obtain ⟨R,hR,hO⟩:=M.obj m o2 hH2
  exact ⟨R,hR,hO.stab st0 fun b hRb=>hk b fun e=>M.sep m n o2 o R Q b hm hH2 hH hR hQ hRb e⟩
 refine M2.put (P:=Q') (updφ_same g _ Q') (updφ_phi hfr) rfl hi' (fun b hb'=>?_) (fun _ _ _=>rfl) (Nat.le_refl _) (ho st)
 refine ⟨(hown b (hb b hb')).1,(hown b (hb b hb')).2,fun m o2 R hm h hR hRb=>?_⟩
 have hmn:m ≠ n:=fun e=>by subst e;rw [upd_same] at h;cases h
 rw [upd_ne _ _ hmn] at h
 exact M.sep m n o2 o R Q b hmn h hH hR hQ hRb (hb b hb')
theorem del_eval {α:Type} {n:Nat} {k:MA α} {a:α} (h:(MA.del n k).eval base H fp = some (a,H',fp')):∃ fp2,k.eval base (upd H n none) fp2 = some (a,H',fp'):=by
 simp only [MA.eval] at h
 cases ho:H n with
 | none=>rw [ho] at h;cases h
 | some o=>rw [ho] at h;exact ⟨_,h⟩
theorem base_eval {α:Type} {k:Nat→MA α} {a:α} (h:(MA.base k).eval base H fp = some (a,H',fp')):(k base).eval base H fp = some (a,H',fp'):=h
theorem append_nothing {t ty:Nat} {e:Nat} {i:TypeInfo} (ht:P.underlying t = some (.slice e)) (hi:P.info? e = some i) (B:Option Addr) (n c:Nat) (hn:n ≤ c) (A:Option Addr) (k:Nat) :
  (Builtin.append_ #[t,t] ty #[.slice B n c,.slice A 0 k]).run P w = .ok (.slice B n c) w:=by
 have hf:(Builtin.firstCells i.size 0 (.slice A 0 k)).run P w = .ok #[] w:=by
  cases A with
  | none=>simp [Builtin.firstCells]
  | some a=>simp [Builtin.firstCells,loadCells,loadCellsFrom]
 cases B with
 | none=>simp [Builtin.append_,run_underlying ht,sizeOf,typeInfo,hi,Builtin.lenOf,hn,hf]
 | some b=>simp [Builtin.append_,run_underlying ht,sizeOf,typeInfo,hi,Builtin.lenOf,hn,hf,storeCells]
theorem append_room {t ty e tt:Nat} {i:TypeInfo} (ht:P.underlying t = some (.slice e)) (hi:P.info? e = some i) (b sLen sCap:Nat) (cur:Array Value) (hg:w.heap[b]? = some (.cells cur tt (0,0)))
  (a:Addr) (m c:Nat) (news:List Value) (hl:news.length = m * i.size) (hnews:∀ j u,news[j]? = some u→w.cell? (a.add j) = some u) (h1:∀ u ∈ news,u.oneCell' = true)
  (hroom:sLen + m ≤ sCap) (hfit:sLen * i.size + news.length ≤ cur.size) :
  (Builtin.append_ #[t,t] ty #[.slice (some ⟨b,0,none⟩) sLen sCap,.slice (some a) m c]).run P w =
   .ok (.slice (some ⟨b,0,none⟩) (sLen + m) sCap) (w.setRow b (cur.toList.take (sLen * i.size) ++ news ++ cur.toList.drop (sLen * i.size + news.length)).toArray):=by
 have hf:=run_firstCells_some (P:=P) w i.size m a m c news hl hnews
 have hst:=run_storeCells_at P b (sLen * i.size) tt news 0 cur w hg (by simpa using hfit) h1
 simp only [Nat.add_zero] at hst
 simp [Builtin.append_,run_underlying ht,sizeOf,typeInfo,hi,Builtin.lenOf,hroom,hf,addr_add,hst]
theorem append_does {t e ty:Nat} {i j:TI} {et:Ty} {x y:SV} {X Y:Value} (ht:TIok P t i) (hu:i.und = .slice e) (he:TIok P e j) (hty:j.ty = some et) (M:Mem mt g H w.heap) (hm:∀ b,w.heap.size ≤ b→mt b) (hf:∀ n,base ≤ n→n < base + keys→g.φ n = none)
  (hx:SVR g w.heap x X) (hy:SVR g w.heap y Y) (h:(appendM et j.bytes x y).eval base H fp = some (v,H',fp')):Makes P mt g H' w base v (Builtin.append_ #[t,t] ty #[X,Y]):=by
 obtain ⟨info,d,z,h1,h2,h3,h4,h5,h6,h7⟩:=he.get
 obtain ⟨zv,zs⟩:=ty_of he hty
 have hsz:info.size = et.size:=by rw [h2,zs]
 have hzs:z.cells.size = info.size:=by
  have:=congrArg List.length h5
  rw [List.length_map,he.zlen] at this
  rw [h2];simpa using this
 have hut:=slice_und ht hu
 have hfr:=hf (base + 0) (by omega) (by have:=keys_pos;omega)
 have lim:∀ k:Nat,k ≤ limit j.bytes→k * info.bytes ≤ 140737488355328∧k ≤ 140737488355328:=fun k hk=>by
  rw [h3]
  have h8:140737488355328 / j.bytes * j.bytes ≤ 140737488355328:=Nat.div_mul_le_self _ _
  exact ⟨Nat.le_trans (Nat.mul_le_mul_right _ hk) h8,Nat.le_trans hk (Nat.div_le_self _ _)⟩
 unfold appendM at h
 rw [MA.eval_bind] at h
 cases hmore:(moreM et y).eval base H fp with
 | none=>rw [hmore] at h;cases h
 | some p =>
  obtain ⟨more,H1,fp1⟩:=p
  rw [hmore] at h
  simp only at h
  obtain ⟨rfl,A,c,rfl,hA⟩:=more_does M hy hmore
  split at h
  · -- onto a row of the call's own
   rename_i n
   obtain ⟨Q,hQ,rfl⟩:=(hx:VR g w.heap (.own n) X)
   obtain ⟨o,ho,h⟩:=get_eval h
   obtain ⟨Q',hQ',hO⟩:=M.obj n o ho
   rw [hQ] at hQ'
   cases hQ'
   split at h
   ·rename_i e' l
    split at h
    ·rename_i q
     subst q
     rcases cond_eval h with ⟨hr,h⟩ | ⟨_,h⟩
     ·simp only [decide_eq_true_eq] at hr
      obtain ⟨_,h⟩:=del_eval h
      obtain ⟨fp2,hno,hs,h⟩:=new_eval (base_eval h)
      obtain ⟨rfl,rfl⟩:=ret_eval h
      have hO':ArrR g w.heap Q e' l:=hO
      obtain ⟨a1,a2,a3,a4⟩:=hO'
      obtain ⟨lb,l63⟩:=lim _ hr
      by_cases hm0:more = []
      · -- nothing comes
       subst hm0
       refine ⟨_,w,append_nothing hut h1 Q.base Q.len Q.cap a3 A c,?_⟩
       refine Post.move (Q':=Q) M ho hQ rfl rfl (fun _ h=>h) hfr hs (fun _ _=>rfl) rfl rfl rfl rfl (fun st=>?_) ⟨Q,updφ_same g _ Q,rfl⟩
       have:ObjR (updφ g (base + 0) Q) w.heap Q (.arr e' l):=hO.stab st fun _ _=>rfl
       simpa using this
      ·obtain ⟨ba,oa,us,rfl,hcell,hR⟩:=hA hm0
       have hmpos:0 < more.length:=List.length_pos_iff.2 hm0
       have hul:=RdL.length more us hR
       have hul':us.length = more.length * info.size:=by rw [hsz];exact hul
       have hcell':∀ q u,us[q]? = some u→w.cell? ((⟨ba,oa,none⟩:Addr).add q) = some u:=fun q u hu=>by rw [addr_add];exact hcell q u hu
       by_cases hroom:Q.len + more.length ≤ Q.cap
       · -- there is room
        cases hb:Q.blk with
        | none=>rw [hb] at a4;omega
        | some b =>
         rw [hb] at a4
         obtain ⟨a5,vs,tt,olds,rest,a6,a7,a8,a9⟩:=a4
         have hol:=RdL.length l olds a8
         have hvs:vs.size = vs.toList.length:=by simp
         have hfit:Q.len * info.size + us.length ≤ vs.size:=by
          rw [hul',← Nat.add_mul]
          refine Nat.le_trans (Nat.mul_le_mul_right _ hroom) ?_
          rw [hsz,← a2];exact a9
         have hrun:=append_room (P:=P) (ty:=ty) hut h1 b Q.len Q.cap vs a6 ⟨ba,oa,none⟩ more.length c us hul' hcell' (RdL.one more us hR) hroom hfit
         rw [a5]
         let Q':Pl:=⟨some b,some ⟨b,0,none⟩,Q.len + more.length,Q.cap,Q.size⟩
         refine ⟨_,_,hrun,?_⟩
         refine Post.move (Q':=Q') M ho hQ rfl rfl (fun c hc=>by rw [hb];exact hc) hfr hs (fun c hc=>setRow_other fun e=>hc (by rw [hb,e])) (by simp) rfl rfl rfl (fun st=>?_) ⟨Q',updφ_same g _ Q',rfl⟩
         have hlo:Q.len * info.size = olds.length:=by rw [hol,← a1,hsz]
         refine ⟨by simp [Q',a1],a2,hroom,rfl,_,tt,olds ++ us,vs.toList.drop (Q.len * info.size + us.length),setRow_heap a6,?_,RdL.mono (fun x vs=>Rd.stab st.ro st.hp e' x vs) _ _ (RdL.append l more olds us a8 hR),?_⟩
         ·rw [List.toList_toArray,hlo,a7,List.take_left]
         ·show Q.cap * Q.size ≤ _
          have:(vs.toList.take (Q.len * info.size) ++ us ++ vs.toList.drop (Q.len * info.size + us.length)).toArray.size = vs.size:=by
           simp only [List.size_toArray,List.length_append,List.length_take,List.length_drop];omega
          rw [this];exact a9
       · -- it grows
        have M1:=M.del n
        have hneed:Q.cap < Q.len + more.length:=by omega
        have hlb:(Q.len + more.length) * info.bytes ≤ 140737488355328:=by rw [a1];exact lb
        cases hb:Q.blk with
        | none =>
         rw [hb] at a4
         obtain ⟨b1,b2,b3⟩:=a4
         have hl0:l = []:=List.length_eq_zero_iff.1 (by omega)
         subst hl0
         rw [b1,b2,b3]
         simp only [List.length_nil,Nat.zero_add] at lb
         have hrun:=run_append_nil (P:=P) w t ty e info z hut h1 h4 ⟨ba,oa,none⟩ more.length c us hul' hcell' hmpos (by omega) (by omega)
         let Q':Pl:=⟨some w.heap.size,some ⟨w.heap.size,0,none⟩,more.length,grownCap w more.length 0 e,e'.size⟩
         have hcap:more.length ≤ grownCap w more.length 0 e:=Nat.le_add_right _ _
         refine ⟨_,_,hrun,?_⟩
         have st:Stab g w.heap (updφ g (base + 0) Q') (w.heap.push (.cells (us.toArray ++ Builtin.zeroCells z.cells (grownCap w more.length 0 e - more.length)) e)):=⟨fun _ h=>h,fun b hb=>push_old _ _ _ (M.ro b hb),updφ_phi hfr⟩
         refine Post.new (Q:=Q') M1 hm rfl rfl rfl rfl hfr hs rfl rfl ?_ ⟨Q',updφ_same g _ Q',rfl⟩
         refine ⟨by simp [Q'],rfl,hcap,rfl,_,e,us,(Builtin.zeroCells z.cells (grownCap w more.length 0 e - more.length)).toList,push_new _ _,by simp,RdL.mono (fun x vs=>Rd.stab st.ro st.hp e' x vs) _ _ hR,?_⟩
         show grownCap w more.length 0 e * e'.size ≤ _
         rw [Array.size_append,size_zeroCells,hzs,hsz,List.size_toArray,hul,← Nat.add_mul]
         exact Nat.mul_le_mul_right _ (by omega)
        | some b =>
         rw [hb] at a4
         obtain ⟨a5,vs,tt,olds,rest,a6,a7,a8,a9⟩:=a4
         have hol:=RdL.length l olds a8
         rw [a5]
         have hrun:=run_append_grow (P:=P) w t ty e info z hut h1 h4 ⟨b,0,none⟩ Q.len Q.cap olds (by rw [hol,← a1,hsz]) (fun q u hq=>by rw [addr_add,cell_blk a6,Nat.zero_add,a7,List.getElem?_append_left (List.getElem?_eq_some_iff.1 hq).1];exact hq)
          ⟨ba,oa,none⟩ more.length c us hul' hcell' hneed (by rw [a1];omega) (growslice_fits hneed hlb)
         let Q':Pl:=⟨some w.heap.size,some ⟨w.heap.size,0,none⟩,Q.len + more.length,grownCap w (Q.len + more.length) Q.cap e,e'.size⟩
         have hcap:Q.len + more.length ≤ grownCap w (Q.len + more.length) Q.cap e:=Nat.le_add_right _ _
         refine ⟨_,_,hrun,?_⟩
         have st:Stab g w.heap (updφ g (base + 0) Q') (w.heap.push (.cells (olds.toArray ++ us.toArray ++ Builtin.zeroCells z.cells (grownCap w (Q.len + more.length) Q.cap e - (Q.len + more.length))) e)):=⟨fun _ h=>h,fun b hb=>push_old _ _ _ (M.ro b hb),updφ_phi hfr⟩
         refine Post.new (Q:=Q') M1 hm rfl rfl rfl rfl hfr hs rfl rfl ?_ ⟨Q',updφ_same g _ Q',rfl⟩
         refine ⟨by simp [Q',a1],rfl,hcap,rfl,_,e,olds ++ us,(Builtin.zeroCells z.cells (grownCap w (Q.len + more.length) Q.cap e - (Q.len + more.length))).toList,push_new _ _,by simp,RdL.mono (fun x vs=>Rd.stab st.ro st.hp e' x vs) _ _ (RdL.append l more olds us a8 hR),?_⟩
         show grownCap w (Q.len + more.length) Q.cap e * e'.size ≤ _
         have e1:olds.length = Q.len * e'.size:=by rw [hol,a1]
         rw [Array.size_append,Array.size_append,size_zeroCells,hzs,hsz,List.size_toArray,List.size_toArray,hul,e1,← Nat.add_mul,← Nat.add_mul]
         exact Nat.mul_le_mul_right _ (by omega)
     ·exact (fail_eval h).elim
    ·exact (fail_eval h).elim
   ·exact (fail_eval h).elim
  · -- onto nothing
   obtain rfl:X = _:=hx
   rcases cond_eval h with ⟨hr,h⟩ | ⟨_,h⟩
   ·simp only [decide_eq_true_eq] at hr
    obtain ⟨fp2,hno,hs,h⟩:=new_eval (base_eval h)
    obtain ⟨rfl,rfl⟩:=ret_eval h
    obtain ⟨lb,l63⟩:=lim _ hr
    by_cases hm0:more = []
    ·subst hm0
     let Q:Pl:=⟨none,none,0,0,et.size⟩
     refine ⟨_,w,append_nothing hut h1 none 0 0 (Nat.le_refl _) A c,?_⟩
     exact Post.bare (Q:=Q) M rfl rfl rfl rfl hfr hs rfl rfl ⟨rfl,rfl,Nat.le_refl _,rfl,rfl,rfl⟩ ⟨Q,updφ_same g _ Q,rfl⟩
    ·obtain ⟨ba,oa,us,rfl,hcell,hR⟩:=hA hm0
     have hmpos:0 < more.length:=List.length_pos_iff.2 hm0
     have hul:=RdL.length more us hR
     have hul':us.length = more.length * info.size:=by rw [hsz];exact hul
     have hcell':∀ q u,us[q]? = some u→w.cell? ((⟨ba,oa,none⟩:Addr).add q) = some u:=fun q u hu=>by rw [addr_add];exact hcell q u hu
     have hrun:=run_append_nil (P:=P) w t ty e info z hut h1 h4 ⟨ba,oa,none⟩ more.length c us hul' hcell' hmpos (by omega) (by omega)
     let Q:Pl:=⟨some w.heap.size,some ⟨w.heap.size,0,none⟩,more.length,grownCap w more.length 0 e,et.size⟩
     have hcap:more.length ≤ grownCap w more.length 0 e:=Nat.le_add_right _ _
     refine ⟨_,_,hrun,?_⟩
     have st:Stab g w.heap (updφ g (base + 0) Q) (w.heap.push (.cells (us.toArray ++ Builtin.zeroCells z.cells (grownCap w more.length 0 e - more.length)) e)):=⟨fun _ h=>h,fun b hb=>push_old _ _ _ (M.ro b hb),updφ_phi hfr⟩
     refine Post.new (Q:=Q) M hm rfl rfl rfl rfl hfr hs rfl rfl ?_ ⟨Q,updφ_same g _ Q,rfl⟩
     refine ⟨rfl,rfl,hcap,rfl,_,e,us,(Builtin.zeroCells z.cells (grownCap w more.length 0 e - more.length)).toList,push_new _ _,by simp,RdL.mono (fun x vs=>Rd.stab st.ro st.hp et x vs) _ _ hR,?_⟩
     show grownCap w more.length 0 e * et.size ≤ _
     rw [Array.size_append,size_zeroCells,hzs,hsz,List.size_toArray,hul,← Nat.add_mul]
     exact Nat.mul_le_mul_right _ (by omega)
   ·exact (fail_eval h).elim
  ·exact (fail_eval h).elim
end
end Go.Proofs.YthdgahpomhnidaaGreat.Mx
/- What a shape's reading of a state tells (own work). -/
namespace Go.Proofs.YthdgahpomhnidaaGreat.Mx
open Go
set_option autoImplicit false
set_option linter.unusedVariables false
set_option linter.unusedSimpArgs false
universe u
abbrev RH:=Nat→Option Obj
structure DS.le (d d':DS):Prop where
 asg:∀ j x,aget d.asg j = some x→aget d'.asg j = some x
 frz:∀ n,n ∈ d.frz→n ∈ d'.frz
theorem DS.le.refl (d:DS):d.le d:=⟨fun _ _ h=>h,fun _ h=>h⟩
theorem DS.le.trans {a b c:DS} (h:a.le b) (k:b.le c):a.le c:=⟨fun j x h'=>k.asg j x (h.asg j x h'),fun n h'=>k.frz n (h.frz n h')⟩
def DS.inj (d:DS):Prop:=(∀ i j n,aget d.asg i = some (some n)→aget d.asg j = some (some n)→i = j)∧∀ n,ahas d.asg n = true ↔ ∃ j,aget d.asg j = some (some n)
def DS.reads (d:DS) (h:RH):Prop:=∀ n,n ∈ d.frz→∃ o,h n = some o
theorem aget_cons (k:Nat) (o:Option Nat) (l:List (Nat×Option Nat)) (n:Nat):aget ((k,o) :: l) n = if k = n then some o else aget l n:=by
 by_cases e:k = n
 ·subst e;simp only [aget,beq_self,if_true]
 ·simp only [aget,beq_ne e,if_neg e]
theorem DS.inj_cons {d:DS} {j n:Nat} (hi:d.inj) (hj:aget d.asg j = none) (hn:ahas d.asg n = false):DS.inj ⟨(j,some n) :: d.asg,d.frz⟩:=by
 have hno:∀ i,aget d.asg i ≠ some (some n):=fun i h=>by
  have:=(hi.2 n).2 ⟨i,h⟩
  rw [hn] at this;cases this
 constructor
 ·intro a b m ha hb
  simp only [aget_cons] at ha hb
  by_cases h1:j = a
  ·by_cases h2:j = b
   ·omega
   ·rw [if_pos h1] at ha;rw [if_neg h2] at hb
    cases ha
    exact absurd hb (hno b)
  ·by_cases h2:j = b
   ·rw [if_neg h1] at ha;rw [if_pos h2] at hb
    cases hb
    exact absurd ha (hno a)
   ·rw [if_neg h1] at ha;rw [if_neg h2] at hb
    exact hi.1 a b m ha hb
 ·intro m
  by_cases e:n = m
  ·subst e
   simp only [ahas,beq_self,true_iff]
   exact ⟨j,by rw [aget_cons,if_pos rfl]⟩
  ·simp only [ahas,beq_ne e]
   rw [hi.2 m]
   constructor
   ·rintro ⟨i,hi'⟩
    refine ⟨i,?_⟩
    rw [aget_cons,if_neg]
    ·exact hi'
    ·rintro rfl;rw [hj] at hi';cases hi'
   ·rintro ⟨i,hi'⟩
    rw [aget_cons] at hi'
    by_cases h1:j = i
    ·rw [if_pos h1] at hi';cases hi';exact absurd rfl e
    ·rw [if_neg h1] at hi';exact ⟨i,hi'⟩
theorem DS.inj_none {d:DS} {j:Nat} (hi:d.inj) (hj:aget d.asg j = none):DS.inj ⟨(j,none) :: d.asg,d.frz⟩:=by
 have back:∀ a m,aget ((j,none) :: d.asg) a = some (some m)→aget d.asg a = some (some m):=fun a m ha=>by
  rw [aget_cons] at ha
  by_cases h1:j = a
  ·rw [if_pos h1] at ha;cases ha
  ·rw [if_neg h1] at ha;exact ha
 constructor
 ·exact fun a b m ha hb=>hi.1 a b m (back a m ha) (back b m hb)
 ·intro m
  simp only [ahas]
  rw [hi.2 m]
  constructor
  ·rintro ⟨i,hi'⟩
   refine ⟨i,?_⟩
   rw [aget_cons,if_neg]
   ·exact hi'
   ·rintro rfl;rw [hj] at hi';cases hi'
  ·rintro ⟨i,hi'⟩;exact ⟨i,back i m hi'⟩
structure DS.good (h:RH) (d:DS):Prop where
 inj:d.inj
 rds:d.reads h
theorem bindKey_spec {h:RH} {B:Type u} {d:DS} {j n:Nat} {K:DS→Option B} {r:B} (g:d.good h) (hk:bindKey d j n K = some r):∃ d',K d' = some r∧d.le d'∧d'.good h∧aget d'.asg j = some (some n):=by
 unfold bindKey at hk
 split at hk
 ·rename_i m hm
  cases hb:Nat.beq m n with
  | false=>rw [hb] at hk;cases hk
  | true=>rw [hb] at hk;exact ⟨d,hk,DS.le.refl d,g,by rw [hm,beq_eq hb]⟩
 ·cases hk
 ·rename_i hj
  cases hb:ahas d.asg n with
  | true=>rw [hb] at hk;cases hk
  | false =>
   rw [hb] at hk
   refine ⟨_,hk,⟨fun i x hi=>?_,fun _ h=>h⟩,⟨DS.inj_cons g.inj hj hb,g.rds⟩,by rw [aget_cons,if_pos rfl]⟩
   rw [aget_cons,if_neg]
   ·exact hi
   ·rintro rfl;rw [hj] at hi;cases hi
theorem bindKeys_spec {h:RH} {B:Type u}:∀ (js ns:List Nat) (d:DS) (K:DS→Option B) (r:B),d.good h→bindKeys d js ns K = some r→∃ d',K d' = some r∧d.le d'∧d'.good h∧All2 (fun j n=>aget d'.asg j = some (some n)) js ns
 | [],[],d,K,r,g,hk=>⟨d,hk,DS.le.refl d,g,trivial⟩
 | j :: js,n :: ns,d,K,r,g,hk=>by
  obtain ⟨d1,h1,h2,h3,h4⟩:=bindKey_spec g (show bindKey d j n (fun d'=>bindKeys d' js ns K) = some r from hk)
  obtain ⟨d2,k1,k2,k3,k4⟩:=bindKeys_spec js ns d1 K r h3 h1
  exact ⟨d2,k1,h2.trans k2,k3,k2.asg j _ h4,k4⟩
 | [],_ :: _,_,_,_,_,hk=>by cases hk
 | _ :: _,[],_,_,_,_,hk=>by cases hk
theorem rowOf_spec {h:RH} {e:Ty} {n:Nat} {l:List e.T} (hr:rowOf h e n = some l):h n = some (.arr e l) ∨ h n = some (.ice e l):=by
 unfold rowOf at hr
 split at hr
 ·split at hr
  ·rename_i q;subst q
   simp only [Option.some.injEq] at hr
   subst hr
   exact .inl (by assumption)
  ·cases hr
 ·split at hr
  ·rename_i q;subst q
   simp only [Option.some.injEq] at hr
   subst hr
   exact .inr (by assumption)
  ·cases hr
 ·cases hr
theorem rowOf_some {h:RH} {e:Ty} {n:Nat} {l:List e.T} (hr:rowOf h e n = some l):∃ o,h n = some o:=by
 rcases rowOf_spec hr with h | h
 ·exact ⟨_,h⟩
 ·exact ⟨_,h⟩
def RelC (h:RH) (d:DS):CV→CV→Prop
 | .ptr j o,c=>∃ n,aget d.asg j = some (some n)∧c = .ptr n o
 | .eptr j i o,c=>∃ n,aget d.asg j = some (some n)∧c = .eptr n i o
 | .own j,c=>(∃ n,aget d.asg j = some (some n)∧c = .own n) ∨ (aget d.asg j = some none∧c = .nils)
 | .fn f js,c=>∃ ns,c = .fn f ns∧All2 (fun j n=>aget d.asg j = some (some n)) js ns
 | .row e l,c=>c = .row e l ∨ (l = []∧c = .nils) ∨ (∃ n,n ∈ d.frz∧rowOf h e n = some l∧c = .own n) ∨ (∃ n lo hi l0,n ∈ d.frz∧rowOf h e n = some l0∧l = (l0.take hi).drop lo∧c = .sub n lo hi)
 | .rptr e l i off,c=>i = 0∧off = 0∧((∃ x n ns,l = [x]∧c = .ptr n 0∧n ∈ d.frz∧(∀ k,k ∈ ns→k ∈ d.frz)∧boxOf h e n = some (x,ns)) ∨ ∃ l0 j,c = .rptr e l0 j 0∧l = [l0.getD j e.dflt])
 | .dead,_=>True
 | .int k n,c=>c = .int k n
 | .bool b,c=>c = .bool b
 | .str s,c=>c = .str s
 | .fint n,c=>c = .fint n
 | .cint x y,c=>c = .cint x y
 | .nilp,c=>c = .nilp
 | .nilf,c=>c = .nilf
 | .nili,c=>c = .nili
 | .nils,c=>c = .nils
 | _,_=>False
theorem RelC.mono {h:RH} {d d':DS} (hd:d.le d'):∀ {c c':CV},RelC h d c c'→RelC h d' c c'
 | .ptr _ _,_,⟨n,h1,h2⟩=>⟨n,hd.asg _ _ h1,h2⟩
 | .eptr _ _ _,_,⟨n,h1,h2⟩=>⟨n,hd.asg _ _ h1,h2⟩
 | .own _,_,h=>h.imp (fun ⟨n,h1,h2⟩=>⟨n,hd.asg _ _ h1,h2⟩) fun ⟨h1,h2⟩=>⟨hd.asg _ _ h1,h2⟩
 | .fn _ _,_,⟨ns,h1,h2⟩=>⟨ns,h1,All2.mono (fun _ _ q=>hd.asg _ _ q) _ _ h2⟩
 | .row _ _,_,h=>h.imp id (Or.imp id (Or.imp (fun ⟨n,h1,h2⟩=>⟨n,hd.frz _ h1,h2⟩) fun ⟨n,lo,hi,l0,h1,h2⟩=>⟨n,lo,hi,l0,hd.frz _ h1,h2⟩))
 | .dead,_,_=>trivial
 | .int _ _,_,h=>h
 | .bool _,_,h=>h
 | .str _,_,h=>h
 | .fint _,_,h=>h
 | .cint _ _,_,h=>h
 | .nilp,_,h=>h
 | .nilf,_,h=>h
 | .nili,_,h=>h
 | .nils,_,h=>h
 | .aptr _ _ _ _ _ _,_,h=>h.elim
 | .sub _ _ _,_,h=>h.elim
 | .rptr _ _ _ _,_,⟨h1,h2,h⟩=>⟨h1,h2,h.imp (fun ⟨x,n,ns,a,b,c,e,f⟩=>⟨x,n,ns,a,b,hd.frz _ c,fun k hk=>hd.frz _ (e k hk),f⟩) id⟩
 | .ifc _ _ _,_,h=>h.elim
def Lays {α β:Type} {γ:Type} (enc:{R:Type 1}→β→(γ→α→R)→R) (enc0:{R:Type}→β→(γ→α→R)→R) (p:α→β) (c:γ):Prop :=
 (∀ {R:Type 1} (y:α) (K:γ→α→R),enc (p y) K = K c y)∧∀ {R:Type} (y:α) (K:γ→α→R),enc0 (p y) K = K c y
theorem thawC_reads {h:RH} {c c':CV} {ns:List Nat} (hc:thawC h c = some (c',ns)):∀ k,k ∈ ns→∃ o,h k = some o:=by
 intro k hk
 unfold thawC at hc
 split at hc <;> (try split at hc) <;> first | (cases hc;done) | skip
 all_goals (simp only [Option.some.injEq,Prod.mk.injEq] at hc;obtain ⟨_,rfl⟩:=hc)
 all_goals first | (cases hk;done) | (rw [List.mem_singleton.1 hk];exact ⟨_,by assumption⟩)
theorem thawCs_reads {h:RH}:∀ (cs:List CV) (cs':List CV) (ns:List Nat),thawCs h cs = some (cs',ns)→∀ k,k ∈ ns→∃ o,h k = some o
 | [],cs',ns,hc,k,hk=>by
  simp only [thawCs,Option.some.injEq,Prod.mk.injEq] at hc
  rw [← hc.2] at hk;cases hk
 | c :: cs,cs',ns,hc,k,hk=>by
  unfold thawCs at hc
  split at hc
  ·rename_i c1 n1 h1
   split at hc
   ·rename_i c2 n2 h2
    simp only [Option.some.injEq,Prod.mk.injEq] at hc
    rw [← hc.2] at hk
    rcases List.mem_append.1 hk with hk | hk
    ·exact thawC_reads h1 k hk
    ·exact thawCs_reads cs c2 n2 h2 k hk
   ·cases hc
  ·cases hc
theorem boxOf_reads {h:RH} {e:Ty} {n:Nat} {x:e.T} {ns:List Nat} (hx:boxOf h e n = some (x,ns)):(∃ o,h n = some o)∧∀ k,k ∈ ns→∃ o,h k = some o:=by
 unfold boxOf at hx
 split at hx
 ·rename_i cs hcs
  split at hx
  ·rename_i cs' ms hms
   split at hx
   ·simp only [Option.some.injEq,Prod.mk.injEq] at hx
    obtain ⟨_,rfl⟩:=hx
    exact ⟨⟨_,hcs⟩,thawCs_reads cs cs' _ hms⟩
   ·cases hx
  ·cases hx
 ·cases hx
theorem CF.decK_spec {α:Type} {R:Type u} {h:RH} {d:DS} {c:CF} {v:CV} {K:DS→(α→c.P α)→Option R} {r:R} (g:d.good h) (hk:c.decK h d v K = some r) :
  ∃ d' p cc,K d' p = some r∧d.le d'∧d'.good h∧Lays (fun {R}=>c.encK (R:=R)) (fun {R}=>c.encK (R:=R)) p cc∧RelC h d' cc v:=by
 unfold CF.decK at hk
 split at hk
 ·rename_i k k' n _
  split at hk
  ·rename_i e;subst e;exact ⟨d,_,.int _ n,hk,DS.le.refl d,g,⟨fun _ _=>rfl,fun _ _=>rfl⟩,rfl⟩
  ·cases hk
 ·rename_i b _;exact ⟨d,_,.bool b,hk,DS.le.refl d,g,⟨fun _ _=>rfl,fun _ _=>rfl⟩,rfl⟩
 ·rename_i b _;exact ⟨d,_,.str b,hk,DS.le.refl d,g,⟨fun _ _=>rfl,fun _ _=>rfl⟩,rfl⟩
 ·rename_i b _;exact ⟨d,_,.fint b,hk,DS.le.refl d,g,⟨fun _ _=>rfl,fun _ _=>rfl⟩,rfl⟩
 ·rename_i a b _;exact ⟨d,_,.cint a b,hk,DS.le.refl d,g,⟨fun _ _=>rfl,fun _ _=>rfl⟩,rfl⟩
 ·rename_i e e' l _
  split at hk
  ·rename_i q;subst q;exact ⟨d,_,.row e' l,hk,DS.le.refl d,g,⟨fun _ _=>rfl,fun _ _=>rfl⟩,.inl rfl⟩
  ·cases hk
 ·rename_i e _;exact ⟨d,_,.row e [],hk,DS.le.refl d,g,⟨fun _ _=>rfl,fun _ _=>rfl⟩,.inr (.inl ⟨rfl,rfl⟩)⟩
 ·rename_i e n _
  split at hk
  ·rename_i l hl
   refine ⟨_,_,.row e l,hk,⟨fun _ _ h=>h,fun _ h=>List.mem_cons_of_mem _ h⟩,⟨g.inj,fun m hm=>?_⟩,⟨fun _ _=>rfl,fun _ _=>rfl⟩,.inr (.inr (.inl ⟨n,List.mem_cons_self,hl,rfl⟩))⟩
   rcases List.mem_cons.1 hm with rfl | hm
   ·exact rowOf_some hl
   ·exact g.rds m hm
  ·cases hk
 ·rename_i e n lo hi _
  split at hk
  ·rename_i l hl
   refine ⟨_,_,.row e ((l.take hi).drop lo),hk,⟨fun _ _ h=>h,fun _ h=>List.mem_cons_of_mem _ h⟩,⟨g.inj,fun m hm=>?_⟩,⟨fun _ _=>rfl,fun _ _=>rfl⟩,.inr (.inr (.inr ⟨n,lo,hi,l,List.mem_cons_self,hl,rfl,rfl⟩))⟩
   rcases List.mem_cons.1 hm with rfl | hm
   ·exact rowOf_some hl
   ·exact g.rds m hm
  ·cases hk
 ·exact ⟨d,_,.nilp,hk,DS.le.refl d,g,⟨fun _ _=>rfl,fun _ _=>rfl⟩,rfl⟩
 ·exact ⟨d,_,.nilf,hk,DS.le.refl d,g,⟨fun _ _=>rfl,fun _ _=>rfl⟩,rfl⟩
 ·exact ⟨d,_,.nili,hk,DS.le.refl d,g,⟨fun _ _=>rfl,fun _ _=>rfl⟩,rfl⟩
 ·exact ⟨d,_,.nils,hk,DS.le.refl d,g,⟨fun _ _=>rfl,fun _ _=>rfl⟩,rfl⟩
 ·rename_i j n _
  obtain ⟨d',h1,h2,h3,h4⟩:=bindKey_spec g hk
  exact ⟨d',_,.own j,h1,h2,h3,⟨fun _ _=>rfl,fun _ _=>rfl⟩,.inl ⟨_,h4,rfl⟩⟩
 ·rename_i j _
  split at hk
  ·rename_i hj
   refine ⟨_,_,.own j,hk,⟨fun i x hi=>?_,fun _ h=>h⟩,⟨DS.inj_none g.inj hj,g.rds⟩,⟨fun _ _=>rfl,fun _ _=>rfl⟩,.inr ⟨by rw [aget_cons,if_pos rfl],rfl⟩⟩
   rw [aget_cons,if_neg]
   ·exact hi
   ·rintro rfl;rw [hj] at hi;cases hi
  ·cases hk
 ·rename_i j off n off' _
  cases hb:Nat.beq off off' with
  | false=>rw [hb] at hk;cases hk
  | true =>
   rw [hb] at hk
   obtain ⟨d',h1,h2,h3,h4⟩:=bindKey_spec g hk
   exact ⟨d',_,.ptr j off,h1,h2,h3,⟨fun _ _=>rfl,fun _ _=>rfl⟩,⟨n,h4,by rw [beq_eq hb]⟩⟩
 ·rename_i j off n i off' _
  cases hb:Nat.beq off off' with
  | false=>rw [hb] at hk;cases hk
  | true =>
   rw [hb] at hk
   obtain ⟨d',h1,h2,h3,h4⟩:=bindKey_spec g hk
   exact ⟨d',_,.eptr j i off,h1,h2,h3,⟨fun _ _=>rfl,fun _ _=>rfl⟩,⟨n,h4,by rw [beq_eq hb]⟩⟩
 ·rename_i f js f' ns _
  cases hb:Nat.beq f f' with
  | false=>rw [hb] at hk;cases hk
  | true =>
   rw [hb] at hk
   obtain ⟨d',h1,h2,h3,h4⟩:=bindKeys_spec js ns d _ r g hk
   exact ⟨d',_,.fn f js,h1,h2,h3,⟨fun _ _=>rfl,fun _ _=>rfl⟩,⟨ns,by rw [beq_eq hb],h4⟩⟩
 ·rename_i e n _
  split at hk
  ·rename_i x ns hx
   refine ⟨_,_,.rptr e [x] 0 0,hk,⟨fun _ _ h=>h,fun _ h=>List.mem_cons_of_mem _ (List.mem_append_right _ h)⟩,⟨g.inj,fun m hm=>?_⟩,⟨fun _ _=>rfl,fun _ _=>rfl⟩,rfl,rfl,.inl ⟨x,n,ns,rfl,rfl,List.mem_cons_self,fun k hk=>List.mem_cons_of_mem _ (List.mem_append_left _ hk),hx⟩⟩
   obtain ⟨h1,h2⟩:=boxOf_reads hx
   rcases List.mem_cons.1 hm with rfl | hm
   ·exact h1
   ·rcases List.mem_append.1 hm with hm | hm
    ·exact h2 m hm
    ·exact g.rds m hm
  ·cases hk
 ·rename_i e e' l i _
  split at hk
  ·rename_i q;subst q
   exact ⟨d,_,.rptr e' [l.getD i e'.dflt] 0 0,hk,DS.le.refl d,g,⟨fun _ _=>rfl,fun _ _=>rfl⟩,rfl,rfl,.inr ⟨l,i,rfl,rfl⟩⟩
  ·cases hk
 ·exact ⟨d,_,.dead,hk,DS.le.refl d,g,⟨fun _ _=>rfl,fun _ _=>rfl⟩,trivial⟩
 ·cases hk
theorem decCsK_spec {h:RH} {α:Type} {R:Type u}:∀ (cs:List CF) (d:DS) (vs:List CV) (K:DS→(α→csT cs α)→Option R) (r:R),d.good h→decCsK h cs d vs K = some r →
  ∃ d' p ccs,K d' p = some r∧d.le d'∧d'.good h∧Lays (fun {R}=>encCsK (R:=R) cs) (fun {R}=>encCsK (R:=R) cs) p ccs∧All2 (RelC h d') ccs vs
 | [],d,[],K,r,g,hk=>⟨d,id,[],hk,DS.le.refl d,g,⟨fun _ _=>rfl,fun _ _=>rfl⟩,trivial⟩
 | c :: cs,d,v :: vs,K,r,g,hk=>by
  obtain ⟨d1,p,cc,h1,h2,h3,h4,h5⟩:=CF.decK_spec g (show c.decK h d v (fun d' p=>decCsK h cs d' vs fun d2 q=>K d2 fun y=>p (q y)) = some r from hk)
  obtain ⟨d2,q,ccs,k1,k2,k3,k4,k5⟩:=decCsK_spec cs d1 vs _ r h3 h1
  refine ⟨d2,_,cc :: ccs,k1,h2.trans k2,k3,⟨fun y K'=>?_,fun y K'=>?_⟩,h5.mono k2,k5⟩
  ·exact (h4.1 (q y) _).trans (k4.1 y _)
  ·exact (h4.2 (q y) _).trans (k4.2 y _)
 | [],_,_ :: _,_,_,_,hk=>by cases hk
 | _ :: _,_,[],_,_,_,hk=>by cases hk
def RelA (h:RH) (d:DS):AV→AV→Prop
 | .c x,.c y=>RelC h d x y
 | .agg xs,.agg ys=>All2 (RelC h d) xs ys
 | _,_=>False
theorem RelA.mono {h:RH} {d d':DS} (hd:d.le d'):∀ {c c':AV},RelA h d c c'→RelA h d' c c'
 | .c _,.c _,q=>RelC.mono hd q
 | .agg _,.agg _,q=>All2.mono (fun _ _=>RelC.mono hd) _ _ q
 | .c _,.agg _,q=>q.elim
 | .agg _,.c _,q=>q.elim
def RelO (h:RH) (d:DS):Obj→Option Obj→Prop
 | .box cs,some (.box vs)=>All2 (RelC h d) cs vs
 | .arr e l,some (.arr e' l')=>(⟨e,l⟩:(e:Ty)×List e.T) = ⟨e',l'⟩
 | .arr e l,none=>l = []
 | _,_=>False
theorem RelO.mono {h:RH} {d d':DS} (hd:d.le d'):∀ {c:Obj} {c':Option Obj},RelO h d c c'→RelO h d' c c'
 | .box _,some (.box _),q=>All2.mono (fun _ _=>RelC.mono hd) _ _ q
 | .arr _ _,some (.arr _ _),q=>q
 | .arr _ _,none,q=>q
 | .box _,some (.arr _ _),q=>q.elim
 | .box _,some (.ice _ _),q=>q.elim
 | .box _,none,q=>q.elim
 | .arr _ _,some (.box _),q=>q.elim
 | .arr _ _,some (.ice _ _),q=>q.elim
 | .ice _ _,_,q=>q.elim
theorem AF.decK_spec {α:Type} {R:Type u} {h:RH} {d:DS}:∀ {a:AF} {v:AV} {K:DS→(α→a.P α)→Option R} {r:R},d.good h→a.decK h d v K = some r →
  ∃ d' p cc,K d' p = some r∧d.le d'∧d'.good h∧Lays (fun {R}=>a.encK (R:=R)) (fun {R}=>a.encK (R:=R)) p cc∧RelA h d' cc v
 | .c x,.c v,K,r,g,hk=>by
  obtain ⟨d1,p,cc,h1,h2,h3,h4,h5⟩:=CF.decK_spec g (show x.decK h d v K = some r from hk)
  exact ⟨d1,p,.c cc,h1,h2,h3,⟨fun y K'=>h4.1 y _,fun y K'=>h4.2 y _⟩,h5⟩
 | .agg xs,.agg vs,K,r,g,hk=>by
  obtain ⟨d1,p,cc,h1,h2,h3,h4,h5⟩:=decCsK_spec xs d vs K r g hk
  exact ⟨d1,p,.agg cc,h1,h2,h3,⟨fun y K'=>h4.1 y _,fun y K'=>h4.2 y _⟩,h5⟩
 | .c _,.agg _,_,_,_,hk=>by cases hk
 | .agg _,.c _,_,_,_,hk=>by cases hk
def OfFormat:OF→Obj→Prop
 | .arr e,o=>∃ l,o = .arr e l
 | .box _,o=>∃ l,o = .box l
theorem OF.decK_spec {α:Type} {R:Type u} {h:RH} {d:DS} {o:OF} {v:Option Obj} {K:DS→(α→o.P α)→Option R} {r:R} (g:d.good h) (hk:o.decK h d v K = some r) :
  ∃ d' p cc,K d' p = some r∧d.le d'∧d'.good h∧Lays (fun {R}=>o.encK (R:=R)) (fun {R}=>o.encK (R:=R)) p cc∧RelO h d' cc v∧OfFormat o cc∧cc.iced = false:=by
 unfold OF.decK at hk
 split at hk
 ·rename_i cs vs K'
  obtain ⟨d1,p,cc,h1,h2,h3,h4,h5⟩:=decCsK_spec _ d _ K' r g hk
  exact ⟨d1,p,.box cc,h1,h2,h3,⟨fun y K'=>h4.1 y _,fun y K'=>h4.2 y _⟩,h5,⟨_,rfl⟩,rfl⟩
 ·rename_i e e' l _
  split at hk
  ·rename_i q;subst q
   exact ⟨d,_,.arr e' l,hk,DS.le.refl d,g,⟨fun _ _=>rfl,fun _ _=>rfl⟩,rfl,⟨_,rfl⟩,rfl⟩
  ·cases hk
 ·rename_i e _;exact ⟨d,_,.arr e [],hk,DS.le.refl d,g,⟨fun _ _=>rfl,fun _ _=>rfl⟩,rfl,⟨_,rfl⟩,rfl⟩
 ·cases hk
def RelS (h:RH) (d:DS) (g:Nat→Option AV) (x:Nat×AF) (y:Nat×AV):Prop:=x.1 = y.1∧∃ a,g y.1 = some a∧RelA h d y.2 a
theorem RelS.mono {h:RH} {d d':DS} {g:Nat→Option AV} (hd:d.le d') {x:Nat×AF} {y:Nat×AV} (q:RelS h d g x y):RelS h d' g x y:=⟨q.1,q.2.elim fun a k=>⟨a,k.1,k.2.mono hd⟩⟩
theorem decSlK_spec {h:RH} {g:Nat→Option AV} {α:Type} {R:Type u}:∀ (ss:List (Nat×AF)) (d:DS) (K:DS→(α→slT ss α)→Option R) (r:R),d.good h→decSlK h g ss d K = some r →
  ∃ d' p as,K d' p = some r∧d.le d'∧d'.good h∧Lays (fun {R}=>encSlK (R:=R) ss) (fun {R}=>encSlK (R:=R) ss) p as∧All2 (RelS h d' g) ss as
 | [],d,K,r,gd,hk=>⟨d,id,[],hk,DS.le.refl d,gd,⟨fun _ _=>rfl,fun _ _=>rfl⟩,trivial⟩
 | s :: ss,d,K,r,gd,hk=>by
  unfold decSlK at hk
  split at hk
  ·rename_i a ha
   obtain ⟨d1,p,cc,h1,h2,h3,h4,h5⟩:=AF.decK_spec gd hk
   obtain ⟨d2,q,ccs,k1,k2,k3,k4,k5⟩:=decSlK_spec ss d1 _ r h3 h1
   refine ⟨d2,_,(s.1,cc) :: ccs,k1,h2.trans k2,k3,⟨fun y K'=>?_,fun y K'=>?_⟩,⟨rfl,a,ha,h5.mono k2⟩,k5⟩
   ·exact (h4.1 (q y) _).trans (k4.1 y _)
   ·exact (h4.2 (q y) _).trans (k4.2 y _)
  ·cases hk
def RelB (h:RH) (d:DS) (x:Nat×OF) (y:Nat×Obj):Prop :=
 x.1 = y.1∧y.2.iced = false∧OfFormat x.2 y.2∧((∃ n o,aget d.asg y.1 = some (some n)∧h n = some o∧RelO h d y.2 (some o)) ∨ (aget d.asg y.1 = some none∧RelO h d y.2 none))
theorem RelB.mono {h:RH} {d d':DS} (hd:d.le d') {x:Nat×OF} {y:Nat×Obj} (q:RelB h d x y):RelB h d' x y :=
 ⟨q.1,q.2.1,q.2.2.1,q.2.2.2.imp (fun ⟨n,o,h1,h2,h3⟩=>⟨n,o,hd.asg _ _ h1,h2,h3.mono hd⟩) fun ⟨h1,h2⟩=>⟨hd.asg _ _ h1,h2.mono hd⟩⟩
theorem decObK_spec {h:RH} {α:Type} {R:Type u}:∀ (ss:List (Nat×OF)) (d:DS) (K:DS→(α→obT ss α)→Option R) (r:R),d.good h→decObK h ss d K = some r →
  ∃ d' p os,K d' p = some r∧d.le d'∧d'.good h∧Lays (fun {R}=>encObK (R:=R) ss) (fun {R}=>encObK (R:=R) ss) p os∧All2 (RelB h d') ss os
 | [],d,K,r,gd,hk=>⟨d,id,[],hk,DS.le.refl d,gd,⟨fun _ _=>rfl,fun _ _=>rfl⟩,trivial⟩
 | s :: ss,d,K,r,gd,hk=>by
  have fin:∀ (v:Option Obj),s.2.decK h d v (fun d' p=>decObK h ss d' fun d2 q=>K d2 fun y=>p (q y)) = some r →
    (∀ d1 cc,d.le d1→RelO h d1 cc v→(∃ n o,aget d1.asg s.1 = some (some n)∧h n = some o∧RelO h d1 cc (some o)) ∨ (aget d1.asg s.1 = some none∧RelO h d1 cc none)) →
    ∃ d' p os,K d' p = some r∧d.le d'∧d'.good h∧Lays (fun {R}=>encObK (R:=R) (s :: ss)) (fun {R}=>encObK (R:=R) (s :: ss)) p os∧All2 (RelB h d') (s :: ss) os:=fun v hv hrel=>by
   obtain ⟨d1,p,cc,h1,h2,h3,h4,h5,h6,h7⟩:=OF.decK_spec gd hv
   obtain ⟨d2,q,ccs,k1,k2,k3,k4,k5⟩:=decObK_spec ss d1 _ r h3 h1
   refine ⟨d2,_,(s.1,cc) :: ccs,k1,h2.trans k2,k3,⟨fun y K'=>?_,fun y K'=>?_⟩,RelB.mono k2 ⟨rfl,h7,h6,hrel d1 cc h2 h5⟩,k5⟩
   ·exact (h4.1 (q y) _).trans (k4.1 y _)
   ·exact (h4.2 (q y) _).trans (k4.2 y _)
  have hk':decOb1K h d s.2 (fun d' p=>decObK h ss d' fun d2 q=>K d2 fun y=>p (q y)) (aget d.asg s.1) = some r:=hk
  unfold decOb1K at hk'
  split at hk'
  ·rename_i n hn
   split at hk'
   ·rename_i o ho
    exact fin (some o) hk' fun d1 cc hle hr=>.inl ⟨n,o,hle.asg _ _ hn,ho,hr⟩
   ·cases hk'
  ·rename_i hn
   exact fin none hk' fun d1 cc hle hr=>.inr ⟨hle.asg _ _ hn,hr⟩
  ·cases hk'
theorem ok_spec (d:DS):∀ (l:List Nat),d.ok l = true→∀ n,n ∈ l→ahas d.asg n = false
 | [],_,n,hn=>by cases hn
 | m :: l,h,n,hn=>by
  simp only [DS.ok] at h
  cases hb:ahas d.asg m with
  | true=>rw [hb] at h;cases h
  | false =>
   rw [hb] at h
   rcases List.mem_cons.1 hn with rfl | hn
   ·exact hb
   ·exact ok_spec d l h n hn
theorem idAsg_get:∀ (m:List Nat) (j:Nat),aget (idAsg m) j = if j ∈ m then some (some j) else none
 | [],j=>by simp [idAsg,aget]
 | k :: m,j=>by
  rw [idAsg,aget_cons,idAsg_get m j]
  by_cases h:k = j
  ·rw [if_pos h,if_pos (by rw [h];exact List.mem_cons_self),h]
  ·rw [if_neg h]
   by_cases h2:j ∈ m
   ·rw [if_pos h2,if_pos (List.mem_cons_of_mem _ h2)]
   ·rw [if_neg h2,if_neg (by simp only [List.mem_cons,not_or];exact ⟨Ne.symm h,h2⟩)]
theorem idAsg_has:∀ (m:List Nat) (n:Nat),ahas (idAsg m) n = true ↔ n ∈ m
 | [],n=>by simp [idAsg,ahas]
 | k :: m,n=>by
  by_cases h:k = n
  ·subst h;simp [idAsg,ahas,beq_self]
  ·simp only [idAsg,ahas,beq_ne h,idAsg_has m n,List.mem_cons]
   constructor
   ·exact .inr
   ·exact fun q=>q.resolve_left (Ne.symm h)
theorem idAsg_inj (m:List Nat):DS.inj ⟨idAsg m,[]⟩:=by
 constructor
 ·intro i j n hi hj
  simp only [idAsg_get] at hi hj
  split at hi <;> split at hj <;> (try simp only [Option.some.injEq] at hi hj) <;> first | (cases hi;done) | (cases hj;done) | omega
 ·intro n
  rw [idAsg_has]
  constructor
  ·intro h;exact ⟨n,by simp only [idAsg_get,if_pos h]⟩
  ·rintro ⟨j,hj⟩
   simp only [idAsg_get] at hj
   split at hj
   ·rename_i hm
    simp only [Option.some.injEq] at hj;exact hj ▸ hm
   ·cases hj
structure Read (s:Shape) (m:List Nat) (h:RH) (g:Nat→Option AV) (x:s.X) (d:DS) (as:List (Nat×AV)) (os:Heap):Prop where
 enc1:∀ {R:Type 1} (K:List (Nat×AV)→Heap→R),s.encK x K = K as os
 enc0:∀ {R:Type} (K:List (Nat×AV)→Heap→R),s.encK x K = K as os
 sl:All2 (RelS h d g) s.sl as
 ob:All2 (RelB h d) s.ob os
 good:d.good h
 ok:∀ n,n ∈ d.frz→∀ j,aget d.asg j ≠ some (some n)
 ids:∀ j,j ∈ m→aget d.asg j = some (some j)
theorem Shape.decK_spec {R:Type u} {s:Shape} {m:List Nat} {h:RH} {g:Nat→Option AV} {K:s.X→DS→Option R} {r:R} (hk:s.decK m h g K = some r):∃ x d as os,K x d = some r∧Read s m h g x d as os:=by
 unfold Shape.decK at hk
 have g0:DS.good h ⟨idAsg m,[]⟩:=⟨idAsg_inj m,fun n hn=>by cases hn⟩
 obtain ⟨d1,p,as,h1,h2,h3,h4,h5⟩:=decSlK_spec s.sl _ _ r g0 hk
 obtain ⟨d2,q,os,k1,k2,k3,k4,k5⟩:=decObK_spec s.ob d1 _ r h3 h1
 cases hb:d2.ok d2.frz with
 | false=>rw [hb] at k1;cases k1
 | true =>
  rw [hb] at k1
  refine ⟨p (q ()),d2,as,os,k1,⟨fun K'=>?_,fun K'=>?_,All2.mono (fun _ _=>RelS.mono k2) _ _ h5,k5,k3,fun n hn j hj=>?_,fun j hj=>(h2.trans k2).asg j _ (by rw [idAsg_get,if_pos hj])⟩⟩
  ·exact (h4.1 (q ()) _).trans (k4.1 () _)
  ·exact (h4.2 (q ()) _).trans (k4.2 () _)
  ·have:=ok_spec d2 d2.frz hb n hn
   rw [(k3.inj.2 n).2 ⟨j,hj⟩] at this
   cases this
end Go.Proofs.YthdgahpomhnidaaGreat.Mx
/- A reading by a shape carries what the values stand for (own work). -/
namespace Go.Proofs.YthdgahpomhnidaaGreat.Mx
open Go
set_option autoImplicit false
set_option linter.unusedVariables false
set_option linter.unusedSimpArgs false
universe u
def ksize:List (Nat×OF)→Nat→Nat
 | [],_=>0
 | (k,.arr e) :: r,j=>if k = j then e.size else ksize r j
 | (k,.box _) :: r,j=>if k = j then 0 else ksize r j
def gE (s:Shape) (d:DS) (g:Gh):Gh :=
  ⟨fun j=>match aget d.asg j with
    | some (some n)=>g.φ n
    | some none=>some ⟨none,none,0,0,ksize s.ob j⟩
    | none=>none,
   fun b=>g.ro b ∨ ∃ n,n ∈ d.frz∧∃ Q,g.φ n = some Q∧Q.blk = some b⟩
theorem gE_some {s:Shape} {d:DS} {g:Gh} {j n:Nat} (h:aget d.asg j = some (some n)):(gE s d g).φ j = g.φ n:=by simp only [gE,h]
theorem gE_none {s:Shape} {d:DS} {g:Gh} {j:Nat} (h:aget d.asg j = some none):(gE s d g).φ j = some ⟨none,none,0,0,ksize s.ob j⟩:=by simp only [gE,h]
theorem All2.comp {α β γ:Type} {R:α→β→Prop} {S:β→γ→Prop} {T:α→γ→Prop} (h:∀ x y z,R x y→S y z→T x z):∀ {l:List α} {m:List β} {k:List γ},All2 R l m→All2 S m k→All2 T l k
 | [],[],[],_,_=>trivial
 | _ :: _,_ :: _,_ :: _,⟨a,b⟩,⟨c,d⟩=>⟨h _ _ _ a c,All2.comp h b d⟩
 | [],_ :: _,_,h,_=>h.elim
 | _ :: _,[],_,h,_=>h.elim
 | [],[],_ :: _,_,h=>h.elim
 | _ :: _,_ :: _,[],_,h=>h.elim
section
variable {mt:Nat→Prop} {g:Gh} {H:HF} {hp:HP} {s:Shape} {m:List Nat} {d:DS}
theorem rows_Rd {e:Ty} {l:List e.T} {n:Nat} {Q:Pl} (M:Mem mt g H hp) (hn:n ∈ d.frz) (hQ:g.φ n = some Q) (hA:ArrR g hp Q e l):l ≠ []→∃ b,Q.blk = some b∧Q.base = some ⟨b,0,none⟩∧(gE s d g).ro b∧∃ cs t fz us rest,hp[b]? = some (.cells cs t fz)∧cs.toList = us ++ rest∧RdL (Rd (gE s d g).ro hp e) l us:=fun hl=>by
 obtain ⟨a1,a2,a3,a4⟩:=hA
 cases hb:Q.blk with
 | none=>rw [hb] at a4;exact absurd (List.length_eq_zero_iff.1 (by omega)) hl
 | some b =>
  rw [hb] at a4
  obtain ⟨a5,vs,t,us,rest,a6,a7,a8,a9⟩:=a4
  exact ⟨b,rfl,a5,.inr ⟨n,hn,Q,hQ,hb⟩,vs,t,(0,0),us,rest,a6,a7,RdL.mono (fun x vs=>Rd.stab (fun b h=>.inl h) (fun _ _=>rfl) e x vs) l us a8⟩
theorem RelC.VR0 {c c':CV} {v:Value} (hnp:∀ e l i o,c ≠ .rptr e l i o) (M:Mem mt g H hp) (hr:RelC H d c c') (hv:Mx.VR g hp c' v):Mx.VR (gE s d g) hp c v:=by
 cases c with
 | int k n=>cases hr;exact hv
 | bool b=>cases hr;exact hv
 | str b=>cases hr;exact hv
 | fint n=>cases hr;exact hv
 | cint x y=>cases hr;exact hv
 | nilp=>cases hr;exact hv
 | nilf=>cases hr;exact hv
 | nili=>cases hr;exact hv
 | nils=>cases hr;exact hv
 | ptr j o =>
  obtain ⟨n,h1,rfl⟩:=hr
  obtain ⟨Q,b,h2,h3,h4⟩:=hv
  exact ⟨Q,b,by rw [gE_some h1];exact h2,h3,h4⟩
 | own j =>
  rcases hr with ⟨n,h1,rfl⟩ | ⟨h1,rfl⟩
  ·obtain ⟨Q,h2,h3⟩:=hv
   exact ⟨Q,by rw [gE_some h1];exact h2,h3⟩
  ·exact ⟨_,gE_none h1,hv⟩
 | fn f js =>
  obtain ⟨ns,rfl,h1⟩:=hr
  obtain ⟨vs,h2,h3⟩:=hv
  refine ⟨vs,h2,All2.comp (fun j n u hj hu=>?_) h1 h3⟩
  obtain ⟨Q,b,k1,k2,k3⟩:=hu
  exact ⟨Q,b,by rw [gE_some hj];exact k1,k2,k3⟩
 | row e l =>
  rcases hr with rfl | ⟨rfl,rfl⟩ | ⟨n,hn,hrow,rfl⟩ | ⟨n,lo,hi,l0,hn,hrow,rfl,rfl⟩
  ·exact Rd.stab (fun b h=>.inl h) (fun _ _=>rfl) (.row e) l [v] hv
  ·obtain rfl:v = _:=hv
   exact ⟨none,0,rfl,Nat.le_refl _,fun h=>absurd rfl h⟩
  ·obtain ⟨Q,hQ,rfl⟩:=hv
   have hA:ArrR g hp Q e l:=by
    rcases rowOf_spec hrow with ho | ho
    ·obtain ⟨Q',hQ',hO⟩:=M.obj n _ ho;rw [hQ] at hQ';cases hQ';exact hO
    ·obtain ⟨Q',hQ',hO⟩:=M.obj n _ ho;rw [hQ] at hQ';cases hQ';exact hO
   refine ⟨Q.base,Q.cap,by rw [hA.1],by rw [← hA.1];exact hA.2.2.1,fun hl=>?_⟩
   obtain ⟨b,h1,h2,h3,cs,t,fz,us,rest,h4,h5,h6⟩:=rows_Rd (s:=s) M hn hQ hA hl
   exact ⟨b,0,cs,t,fz,us,rest,h2,h3,h4,by rw [List.drop_zero,h5],h6⟩
  ·obtain ⟨Q,A,c,hQ,hlo,hhi,hcap,rfl,hA0⟩:=hv
   have hA:ArrR g hp Q e l0:=by
    rcases rowOf_spec hrow with ho | ho
    ·obtain ⟨Q',hQ',hO⟩:=M.obj n _ ho;rw [hQ] at hQ';cases hQ';exact hO
    ·obtain ⟨Q',hQ',hO⟩:=M.obj n _ ho;rw [hQ] at hQ';cases hQ';exact hO
   have hlen:((l0.take hi).drop lo).length = hi - lo:=by rw [List.length_drop,List.length_take,← hA.1];omega
   refine ⟨A,c,by rw [hlen],by rw [hlen];exact hcap,fun hl=>?_⟩
   have hlt:lo < hi:=by
    rcases Nat.lt_or_ge lo hi with h' | h'
    ·exact h'
    ·exact absurd (List.length_eq_zero_iff.1 (by rw [hlen];omega)) hl
   obtain ⟨b,hb1,hb2⟩:=hA0 hlt
   obtain ⟨b',h1,h2,h3,cs,t,fz,us,rest,h4,h5,h6⟩:=rows_Rd (s:=s) M hn hQ hA (by rintro rfl;have:=hA.1;simp at this;omega)
   rw [hb1] at h1
   cases h1
   have hul:=RdL.length l0 us h6
   have hle:lo * e.size ≤ hi * e.size:=Nat.mul_le_mul_right _ (by omega)
   have hle2:hi * e.size ≤ l0.length * e.size:=Nat.mul_le_mul_right _ (by rw [← hA.1];exact hhi)
   refine ⟨b,lo * Q.size,cs,t,fz,(us.take (hi * e.size)).drop (lo * e.size),us.drop (hi * e.size) ++ rest,hb2,h3,h4,?_,RdL.take_drop l0 us lo hi h6 (by rw [← hA.1];exact hhi)⟩
   rw [hA.2.1,h5]
   conv=>lhs;rw [← List.take_append_drop (hi * e.size) us]
   rw [List.append_assoc,List.drop_append_of_le_length (by rw [List.length_take];omega)]
 | dead=>trivial
 | eptr j i o =>
  obtain ⟨n,h1,rfl⟩:=hr
  obtain ⟨Q,b,h2,h3⟩:=hv
  exact ⟨Q,b,by rw [gE_some h1];exact h2,h3⟩
 | aptr _ _ _ _ _ _=>exact hr.elim
 | sub _ _ _=>exact hr.elim
 | rptr e l i o=>exact absurd rfl (hnp e l i o)
 | ifc _ _ _=>exact hr.elim
theorem thaw_VR {c c':CV} {ns:List Nat} {v:Value} (M:Mem mt g H hp) (hc:thawC H c = some (c',ns)) (hns:∀ k,k ∈ ns→k ∈ d.frz) (hv:Mx.VR g hp c v):Mx.VR (gE s d g) hp c' v:=by
 have row:∀ {e:Ty} {k:Nat} {l:List e.T},(H k = some (.arr e l) ∨ H k = some (.ice e l))→rowOf H e k = some l:=fun h=>by
  rcases h with h | h <;> simp [rowOf,h]
 unfold thawC at hc
 split at hc <;> (try split at hc) <;> first | (cases hc;done) | skip
 all_goals (simp only [Option.some.injEq,Prod.mk.injEq] at hc;obtain ⟨rfl,rfl⟩:=hc)
 ·exact RelC.VR0 (fun _ _ _ _ h=>by cases h) M (c':=.own _) (.inr (.inr (.inl ⟨_,hns _ (List.mem_singleton.2 rfl),row (.inl (by assumption)),rfl⟩))) hv
 ·exact RelC.VR0 (fun _ _ _ _ h=>by cases h) M (c':=.own _) (.inr (.inr (.inl ⟨_,hns _ (List.mem_singleton.2 rfl),row (.inr (by assumption)),rfl⟩))) hv
 ·exact RelC.VR0 (fun _ _ _ _ h=>by cases h) M (c':=.sub _ _ _) (.inr (.inr (.inr ⟨_,_,_,_,hns _ (List.mem_singleton.2 rfl),row (.inl (by assumption)),rfl,rfl⟩))) hv
 ·exact RelC.VR0 (fun _ _ _ _ h=>by cases h) M (c':=.sub _ _ _) (.inr (.inr (.inr ⟨_,_,_,_,hns _ (List.mem_singleton.2 rfl),row (.inr (by assumption)),rfl,rfl⟩))) hv
 ·exact RelC.VR0 (fun _ _ _ _ h=>by cases h) M (c':=.int _ _) rfl hv
 ·exact RelC.VR0 (fun _ _ _ _ h=>by cases h) M (c':=.bool _) rfl hv
 ·exact RelC.VR0 (fun _ _ _ _ h=>by cases h) M (c':=.str _) rfl hv
 ·exact RelC.VR0 (fun _ _ _ _ h=>by cases h) M (c':=.row _ _) (.inl rfl) hv
 ·exact RelC.VR0 (fun _ _ _ _ h=>by cases h) M (c':=.nils) rfl hv
theorem thaws_VR (M:Mem mt g H hp):∀ (cs cs':List CV) (ns:List Nat) (vs:List Value),thawCs H cs = some (cs',ns)→(∀ k,k ∈ ns→k ∈ d.frz)→All2 (Mx.VR g hp) cs vs→All2 (Mx.VR (gE s d g) hp) cs' vs
 | [],cs',ns,[],hc,_,_=>by
  simp only [thawCs,Option.some.injEq,Prod.mk.injEq] at hc
  rw [← hc.1];trivial
 | c :: cs,cs',ns,v :: vs,hc,hns,⟨h1,h2⟩=>by
  unfold thawCs at hc
  split at hc
  ·rename_i c1 n1 k1
   split at hc
   ·rename_i c2 n2 k2
    simp only [Option.some.injEq,Prod.mk.injEq] at hc
    obtain ⟨rfl,rfl⟩:=hc
    exact ⟨thaw_VR M k1 (fun k hk=>hns k (List.mem_append_left _ hk)) h1,thaws_VR M cs c2 n2 vs k2 (fun k hk=>hns k (List.mem_append_right _ hk)) h2⟩
   ·cases hc
  ·cases hc
 | [],_,_,_ :: _,_,_,h=>h.elim
 | _ :: _,_,_,[],_,_,h=>h.elim
theorem RelC.VR {c c':CV} {v:Value} (M:Mem mt g H hp) (hr:RelC H d c c') (hv:Mx.VR g hp c' v):Mx.VR (gE s d g) hp c v:=by
 cases c with
 | rptr e l i o =>
  obtain ⟨rfl,rfl,hr⟩:=hr
  rcases hr with ⟨x,n,ns,rfl,rfl,hn,hns,hx⟩ | ⟨l0,j,rfl,rfl⟩
  ·obtain ⟨Q,b,h1,h2,rfl⟩:=hv
   unfold boxOf at hx
   split at hx
   ·rename_i cs hcs
    split at hx
    ·rename_i cs' ms hms
     split at hx
     ·rename_i x' hdec
      simp only [Option.some.injEq,Prod.mk.injEq] at hx
      obtain ⟨rfl,rfl⟩:=hx
      obtain ⟨Q',hQ',b',vs,t,q1,q2,q3⟩:=M.obj n _ hcs
      rw [h1] at hQ';cases hQ'
      rw [h2] at q1;cases q1
      obtain ⟨u,w,hu,hR,hw⟩:=dec_Rd e cs' vs.toList x' [] (thaws_VR (s:=s) M cs cs' _ vs.toList hms hns q3) hdec
      refine ⟨b,0,vs,t,(0,0),u,w,by simp,.inr ⟨n,hn,Q,h1,h2⟩,q2,by rw [List.drop_zero,hu],⟨u,[],by simp,hR,rfl⟩,Nat.zero_lt_one⟩
     ·cases hx
    ·cases hx
   ·cases hx
  ·obtain ⟨b,o,cs,t,fz,us,rest,rfl,h2,h3,h4,h5,h6⟩:=hv
   obtain ⟨u,k1,k2⟩:=RdL.get l0 us j e.dflt h5 h6
   have hlen:=RdL.length l0 us h5
   have hle:j * e.size ≤ us.length:=by rw [hlen];exact Nat.mul_le_mul_right _ (Nat.le_of_lt h6)
   refine ⟨b,o + j * e.size,cs,t,fz,u,(us.drop (j * e.size)).drop e.size ++ rest,by simp,.inl h2,h3,?_,⟨u,[],by simp,Rd.stab (fun b h=>.inl h) (fun _ _=>rfl) e _ u k2,rfl⟩,Nat.zero_lt_one⟩
   rw [← List.drop_drop,h4,List.drop_append_of_le_length hle,← k1,← List.append_assoc,List.take_append_drop]
 | int _ _=>exact RelC.VR0 (fun _ _ _ _ h=>by cases h) M hr hv
 | bool _=>exact RelC.VR0 (fun _ _ _ _ h=>by cases h) M hr hv
 | str _=>exact RelC.VR0 (fun _ _ _ _ h=>by cases h) M hr hv
 | fint _=>exact RelC.VR0 (fun _ _ _ _ h=>by cases h) M hr hv
 | cint _ _=>exact RelC.VR0 (fun _ _ _ _ h=>by cases h) M hr hv
 | nilp=>exact RelC.VR0 (fun _ _ _ _ h=>by cases h) M hr hv
 | nilf=>exact RelC.VR0 (fun _ _ _ _ h=>by cases h) M hr hv
 | nili=>exact RelC.VR0 (fun _ _ _ _ h=>by cases h) M hr hv
 | nils=>exact RelC.VR0 (fun _ _ _ _ h=>by cases h) M hr hv
 | ptr _ _=>exact RelC.VR0 (fun _ _ _ _ h=>by cases h) M hr hv
 | eptr _ _ _=>exact RelC.VR0 (fun _ _ _ _ h=>by cases h) M hr hv
 | aptr _ _ _ _ _ _=>exact RelC.VR0 (fun _ _ _ _ h=>by cases h) M hr hv
 | own _=>exact RelC.VR0 (fun _ _ _ _ h=>by cases h) M hr hv
 | sub _ _ _=>exact RelC.VR0 (fun _ _ _ _ h=>by cases h) M hr hv
 | row _ _=>exact RelC.VR0 (fun _ _ _ _ h=>by cases h) M hr hv
 | fn _ _=>exact RelC.VR0 (fun _ _ _ _ h=>by cases h) M hr hv
 | ifc _ _ _=>exact RelC.VR0 (fun _ _ _ _ h=>by cases h) M hr hv
 | dead=>exact RelC.VR0 (fun _ _ _ _ h=>by cases h) M hr hv
theorem RelA.AVR {a a':AV} {v:Value} (M:Mem mt g H hp) (hr:RelA H d a a') (hv:Mx.AVR g hp a' v):Mx.AVR (gE s d g) hp a v:=by
 cases a with
 | c x=>cases a' with
  | c y=>exact RelC.VR M hr hv
  | agg _=>exact hr.elim
 | agg xs=>cases a' with
  | c y=>exact hr.elim
  | agg ys =>
   obtain ⟨vs,h1,h2⟩:=hv
   exact ⟨vs,h1,All2.comp (R:=RelC H d) (S:=Mx.VR g hp) (T:=Mx.VR (gE s d g) hp) (fun _ _ _ p q=>RelC.VR M p q) hr h2⟩
/-! ### the objects behind a reading -/
theorem ob_mem:∀ {ss:List (Nat×OF)} {os:Heap} {j:Nat} {o:Obj},All2 (RelB H d) ss os→hget os j = some o→∃ x,x ∈ ss∧x.1 = j∧RelB H d x (j,o)
 | [],[],_,_,_,h=>by cases h
 | x :: ss,(k,o') :: os,j,o,⟨hx,hr⟩,h=>by
  rw [hget_cons] at h
  by_cases e:k = j
  ·rw [if_pos e] at h;cases h;subst e;exact ⟨x,List.mem_cons_self,hx.1,hx⟩
  ·rw [if_neg e] at h
   obtain ⟨y,h1,h2,h3⟩:=ob_mem hr h
   exact ⟨y,List.mem_cons_of_mem _ h1,h2,h3⟩
 | [],_ :: _,_,_,h,_=>h.elim
 | _ :: _,[],_,_,h,_=>h.elim
theorem ksize_of:∀ {ss:List (Nat×OF)} {j:Nat} {e:Ty},nodupK ss = true→(j,.arr e) ∈ ss→ksize ss j = e.size
 | [],_,_,_,h=>by cases h
 | (k,f) :: r,j,e,hn,h=>by
  simp only [nodupK,Bool.and_eq_true,Bool.not_eq_true',List.any_eq_false] at hn
  rcases List.mem_cons.1 h with h2 | h2
  ·cases h2;simp only [ksize,if_true]
  ·have hk:k ≠ j:=fun e'=>by
    have:=hn.1 _ h2
    rw [e'] at this
    simp [beq_self] at this
   cases f with
   | arr e2=>simp only [ksize,if_neg hk];exact ksize_of hn.2 h2
   | box cs=>simp only [ksize,if_neg hk];exact ksize_of hn.2 h2
theorem wf_nodup (h:s.wf = true):nodupK s.ob = true:=by
 simp only [Shape.wf,Bool.and_eq_true] at h
 exact h.1.1
theorem Read.mem {gA:Nat→Option AV} {x:s.X} {as:List (Nat×AV)} {os:Heap} {mt':Nat→Prop} (R:Read s m H gA x d as os) (M:Mem mt g H hp) (hw:s.wf = true)
  (hmt:∀ j n o Q b,aget d.asg j = some (some n)→H n = some o→o.iced = false→g.φ n = some Q→Q.blk = some b→mt' b):Mem mt' (gE s d g) (hget os) hp:=by
 have frz_ne:∀ n,n ∈ d.frz→∀ Q b,g.φ n = some Q→Q.blk = some b→∀ k o Q' j,aget d.asg j = some (some k)→H k = some o→g.φ k = some Q'→Q'.blk ≠ some b:=fun n hn Q b hQ hb k o Q' j hj ho hQ'=>by
  obtain ⟨o0,h⟩:=R.good.rds n hn
  have hne:n ≠ k:=fun e'=>R.ok n hn j (by rw [e'];exact hj)
  exact M.sep n k _ o Q Q' b hne h ho hQ hQ' hb
 refine ⟨fun j o h=>?_,fun j o Q b h hi hQ hb=>?_,fun j o Q b h hi hQ hb=>?_,fun j k o o' Q Q' b hjk h h' hQ hQ' hb=>?_,fun b hb=>?_⟩
 ·obtain ⟨y,hy,hyj,hB⟩:=ob_mem R.ob h
  obtain ⟨b1,b2,b3,b4⟩:=hB
  rcases b4 with ⟨n,o',h1,h2,h3⟩ | ⟨h1,h3⟩
  ·obtain ⟨Q,hQ,hO⟩:=M.obj n o' h2
   refine ⟨Q,by rw [gE_some h1];exact hQ,?_⟩
   cases o with
   | ice _ _=>cases b2
   | box cs =>
    cases o' with
    | box vs =>
     obtain ⟨b,vals,t,k1,k2,k3⟩:=hO
     exact ⟨b,vals,t,k1,k2,All2.comp (R:=RelC H d) (S:=Mx.VR g hp) (T:=Mx.VR (gE s d g) hp) (fun _ _ _ p q=>RelC.VR M p q) h3 k3⟩
    | arr _ _=>exact h3.elim
    | ice _ _=>exact h3.elim
   | arr e l =>
    cases o' with
    | box _=>exact h3.elim
    | ice _ _=>exact h3.elim
    | arr e' l' =>
     have h3':(⟨e,l⟩:(e:Ty)×List e.T) = ⟨e',l'⟩:=h3
     cases h3'
     have st:Stab g hp (gE s d g) hp→True:=fun _=>trivial
     obtain ⟨a1,a2,a3,a4⟩:=(hO:ArrR g hp Q e l)
     refine ⟨a1,a2,a3,?_⟩
     cases hb:Q.blk with
     | none=>rw [hb] at a4;exact a4
     | some b =>
      rw [hb] at a4
      obtain ⟨a5,vs,t,us,rest,a6,a7,a8,a9⟩:=a4
      exact ⟨a5,vs,t,us,rest,a6,a7,RdL.mono (fun x vs=>Rd.stab (fun b h=>.inl h) (fun _ _=>rfl) e x vs) l us a8,a9⟩
  ·refine ⟨_,gE_none h1,?_⟩
   cases o with
   | ice _ _=>cases b2
   | box cs=>exact h3.elim
   | arr e l =>
    obtain rfl:l = []:=h3
    obtain ⟨yk,yf⟩:=y
    simp only at hyj
    subst hyj
    cases yf with
    | box _=>obtain ⟨_,hh⟩:=b3;cases hh
    | arr e2 =>
     obtain ⟨l2,hh⟩:=b3
     cases hh
     exact ⟨rfl,ksize_of (wf_nodup hw) hy,Nat.le_refl _,rfl,rfl,rfl⟩
 ·obtain ⟨y,hy,hyj,b1,b2,b3,b4⟩:=ob_mem R.ob h
  rcases b4 with ⟨n,o',h1,h2,h3⟩ | ⟨h1,h3⟩
  ·have h1':aget d.asg j = some (some n):=h1
   rw [gE_some h1'] at hQ
   have hi':o'.iced = false:=by
    cases o' with
    | ice _ _=>cases o <;> exact h3.elim
    | _=>rfl
   obtain ⟨k1,k2⟩:=M.own n o' Q b h2 hi' hQ hb
   refine ⟨hmt j n o' Q b h1' h2 hi' hQ hb,fun hro=>hro.elim k2 ?_⟩
   rintro ⟨f,hf,Qf,hQf,hbf⟩
   exact frz_ne f hf Qf b hQf hbf n o' Q j h1' h2 hQ hb
  ·have h1':aget d.asg j = some none:=h1
   rw [gE_none h1'] at hQ
   cases hQ
   cases hb
 ·obtain ⟨y,hy,hyj,b1,b2,b3,b4⟩:=ob_mem R.ob h
  have b2':o.iced = false:=b2
  rw [b2'] at hi
  cases hi
 ·obtain ⟨y,hy,hyj,b1,b2,b3,b4⟩:=ob_mem R.ob h
  obtain ⟨z,hz,hzj,c1,c2,c3,c4⟩:=ob_mem R.ob h'
  rcases b4 with ⟨n,o1,h1,h2,h3⟩ | ⟨h1,h3⟩
  ·have h1':aget d.asg j = some (some n):=h1
   rw [gE_some h1'] at hQ
   rcases c4 with ⟨n',o2,k1,k2,k3⟩ | ⟨k1,k3⟩
   ·have k1':aget d.asg k = some (some n'):=k1
    rw [gE_some k1'] at hQ'
    exact M.sep n n' o1 o2 Q Q' b (fun e=>hjk (R.good.inj.1 j k n h1' (by rw [e];exact k1'))) h2 k2 hQ hQ' hb
   ·have k1':aget d.asg k = some none:=k1
    rw [gE_none k1'] at hQ'
    cases hQ'
    simp
  ·have h1':aget d.asg j = some none:=h1
   rw [gE_none h1'] at hQ
   cases hQ
   cases hb
 ·rcases hb with hb | ⟨n,hn,Q,hQ,hb⟩
  ·exact M.ro b hb
  ·obtain ⟨o0,h⟩:=R.good.rds n hn
   obtain ⟨Q',hQ',hO⟩:=M.obj n _ h
   rw [hQ] at hQ'
   cases hQ'
   exact hO.lt b hb
theorem Read.ro {gA:Nat→Option AV} {x:s.X} {as:List (Nat×AV)} {os:Heap} (R:Read s m H gA x d as os) (M:Mem mt g H hp):∀ b,(gE s d g).ro b→g.ro b ∨ mt b:=fun b hb=>by
 rcases hb with hb | ⟨n,hn,Q,hQ,hb⟩
 ·exact .inl hb
 ·obtain ⟨o0,h⟩:=R.good.rds n hn
  cases hi:o0.iced with
  | false=>exact .inr (M.own n _ Q b h hi hQ hb).1
  | true=>exact .inl (M.ice n _ Q b h hi hQ hb)
end
end Go.Proofs.YthdgahpomhnidaaGreat.Mx
/- Calls of functions told by their shapes do what the model's do (own work). -/
namespace Go.Proofs.YthdgahpomhnidaaGreat.Mx
open Go
set_option autoImplicit false
set_option linter.unusedVariables false
set_option linter.unusedSimpArgs false
universe u
variable {P:Program}
/-! ### what a format lays -/
def FitC:CF→CV→Prop
 | .int k,c=>∃ n,c = .int k n
 | .bool,c=>∃ n,c = .bool n
 | .str,c=>∃ n,c = .str n
 | .fint,c=>∃ n,c = .fint n
 | .cint,c=>∃ n m,c = .cint n m
 | .row e,c=>∃ l,c = .row e l
 | .nilp,c=>c = .nilp
 | .nilf,c=>c = .nilf
 | .nili,c=>c = .nili
 | .nils,c=>c = .nils
 | .own j,c=>c = .own j
 | .ptr j o,c=>c = .ptr j o
 | .eptr j o,c=>∃ i,c = .eptr j i o
 | .fn f js,c=>c = .fn f js
 | .bptr e,c=>∃ x,c = .rptr e [x] 0 0
 | .dead,c=>c = .dead
def FitA:AF→AV→Prop
 | .c x,.c y=>FitC x y
 | .agg xs,.agg ys=>All2 FitC xs ys
 | _,_=>False
def FitO:OF→Obj→Prop
 | .box cs,.box vs=>All2 FitC cs vs
 | .arr e,.arr e' _=>e' = e
 | _,_=>False
def LaidK {α β γ:Type} (enc:{R:Type 1}→β→(γ→α→R)→R) (enc0:{R:Type}→β→(γ→α→R)→R) (x:β) (c:γ) (y:α):Prop :=
 (∀ {R:Type 1} (K:γ→α→R),enc x K = K c y)∧∀ {R:Type} (K:γ→α→R),enc0 x K = K c y
theorem CF.laid {α:Type} (c:CF) (x:c.P α):∃ v y,LaidK (fun {R}=>c.encK (R:=R)) (fun {R}=>c.encK (R:=R)) x v y∧FitC c v:=by
 cases c with
 | int k=>exact ⟨.int k x.1,x.2,⟨fun _=>rfl,fun _=>rfl⟩,_,rfl⟩
 | bool=>exact ⟨.bool x.1,x.2,⟨fun _=>rfl,fun _=>rfl⟩,_,rfl⟩
 | str=>exact ⟨.str x.1,x.2,⟨fun _=>rfl,fun _=>rfl⟩,_,rfl⟩
 | fint=>exact ⟨.fint x.1,x.2,⟨fun _=>rfl,fun _=>rfl⟩,_,rfl⟩
 | cint=>exact ⟨.cint x.1 x.2.1,x.2.2,⟨fun _=>rfl,fun _=>rfl⟩,_,_,rfl⟩
 | row e=>exact ⟨.row e x.1,x.2,⟨fun _=>rfl,fun _=>rfl⟩,_,rfl⟩
 | nilp=>exact ⟨_,x,⟨fun _=>rfl,fun _=>rfl⟩,rfl⟩
 | nilf=>exact ⟨_,x,⟨fun _=>rfl,fun _=>rfl⟩,rfl⟩
 | nili=>exact ⟨_,x,⟨fun _=>rfl,fun _=>rfl⟩,rfl⟩
 | nils=>exact ⟨_,x,⟨fun _=>rfl,fun _=>rfl⟩,rfl⟩
 | own j=>exact ⟨_,x,⟨fun _=>rfl,fun _=>rfl⟩,rfl⟩
 | ptr j o=>exact ⟨_,x,⟨fun _=>rfl,fun _=>rfl⟩,rfl⟩
 | eptr j o=>exact ⟨.eptr j x.1 o,x.2,⟨fun _=>rfl,fun _=>rfl⟩,_,rfl⟩
 | fn f js=>exact ⟨_,x,⟨fun _=>rfl,fun _=>rfl⟩,rfl⟩
 | bptr e=>exact ⟨.rptr e [x.1] 0 0,x.2,⟨fun _=>rfl,fun _=>rfl⟩,_,rfl⟩
 | dead=>exact ⟨_,x,⟨fun _=>rfl,fun _=>rfl⟩,rfl⟩
theorem encCs_laid {α:Type}:∀ (cs:List CF) (x:csT cs α),∃ vs y,LaidK (fun {R}=>encCsK (R:=R) cs) (fun {R}=>encCsK (R:=R) cs) x vs y∧All2 FitC cs vs
 | [],x=>⟨[],x,⟨fun _=>rfl,fun _=>rfl⟩,trivial⟩
 | c :: cs,x=>by
  obtain ⟨v,y,h1,h2⟩:=CF.laid c x
  obtain ⟨vs,z,k1,k2⟩:=encCs_laid cs y
  exact ⟨v :: vs,z,⟨fun K=>(h1.1 _).trans (k1.1 _),fun K=>(h1.2 _).trans (k1.2 _)⟩,h2,k2⟩
theorem AF.laid {α:Type} (a:AF) (x:a.P α):∃ v y,LaidK (fun {R}=>a.encK (R:=R)) (fun {R}=>a.encK (R:=R)) x v y∧FitA a v:=by
 cases a with
 | c c =>
  obtain ⟨v,y,h1,h2⟩:=CF.laid c x
  exact ⟨.c v,y,⟨fun K=>h1.1 _,fun K=>h1.2 _⟩,h2⟩
 | agg cs =>
  obtain ⟨v,y,h1,h2⟩:=encCs_laid cs x
  exact ⟨.agg v,y,⟨fun K=>h1.1 _,fun K=>h1.2 _⟩,h2⟩
theorem OF.laid {α:Type} (a:OF) (x:a.P α):∃ v y,LaidK (fun {R}=>a.encK (R:=R)) (fun {R}=>a.encK (R:=R)) x v y∧FitO a v:=by
 cases a with
 | box cs =>
  obtain ⟨v,y,h1,h2⟩:=encCs_laid cs x
  exact ⟨.box v,y,⟨fun K=>h1.1 _,fun K=>h1.2 _⟩,h2⟩
 | arr e=>exact ⟨.arr e x.1,x.2,⟨fun _=>rfl,fun _=>rfl⟩,rfl⟩
theorem encSl_laid {α:Type}:∀ (ss:List (Nat×AF)) (x:slT ss α),∃ as y,LaidK (fun {R}=>encSlK (R:=R) ss) (fun {R}=>encSlK (R:=R) ss) x as y∧All2 (fun a b=>a.1 = b.1∧FitA a.2 b.2) ss as
 | [],x=>⟨[],x,⟨fun _=>rfl,fun _=>rfl⟩,trivial⟩
 | c :: cs,x=>by
  obtain ⟨v,y,h1,h2⟩:=AF.laid c.2 x
  obtain ⟨vs,z,k1,k2⟩:=encSl_laid cs y
  exact ⟨(c.1,v) :: vs,z,⟨fun K=>(h1.1 _).trans (k1.1 _),fun K=>(h1.2 _).trans (k1.2 _)⟩,⟨rfl,h2⟩,k2⟩
theorem encOb_laid {α:Type}:∀ (ss:List (Nat×OF)) (x:obT ss α),∃ os y,LaidK (fun {R}=>encObK (R:=R) ss) (fun {R}=>encObK (R:=R) ss) x os y∧All2 (fun a b=>a.1 = b.1∧FitO a.2 b.2) ss os
 | [],x=>⟨[],x,⟨fun _=>rfl,fun _=>rfl⟩,trivial⟩
 | c :: cs,x=>by
  obtain ⟨v,y,h1,h2⟩:=OF.laid c.2 x
  obtain ⟨vs,z,k1,k2⟩:=encOb_laid cs y
  exact ⟨(c.1,v) :: vs,z,⟨fun K=>(h1.1 _).trans (k1.1 _),fun K=>(h1.2 _).trans (k1.2 _)⟩,⟨rfl,h2⟩,k2⟩
structure Laid (s:Shape) (x:s.X) (as:List (Nat×AV)) (os:Heap):Prop where
 enc1:∀ {R:Type 1} (K:List (Nat×AV)→Heap→R),s.encK x K = K as os
 enc0:∀ {R:Type} (K:List (Nat×AV)→Heap→R),s.encK x K = K as os
 sl:All2 (fun a b=>a.1 = b.1∧FitA a.2 b.2) s.sl as
 ob:All2 (fun a b=>a.1 = b.1∧FitO a.2 b.2) s.ob os
theorem Shape.laid (s:Shape) (x:s.X):∃ as os,Laid s x as os:=by
 obtain ⟨as,y,h1,h2⟩:=encSl_laid s.sl x
 obtain ⟨os,z,k1,k2⟩:=encOb_laid s.ob y
 exact ⟨as,os,fun K=>(h1.1 _).trans (k1.1 _),fun K=>(h1.2 _).trans (k1.2 _),h2,k2⟩
theorem Laid.same {s:Shape} {x:s.X} {as as':List (Nat×AV)} {os os':Heap} (L:Laid s x as os) (h:∀ {R:Type} (K:List (Nat×AV)→Heap→R),s.encK x K = K as' os'):as' = as∧os' = os:=by
 have:=(h fun a b=>(a,b)).symm.trans (L.enc0 fun a b=>(a,b))
 simp only [Prod.mk.injEq] at this
 exact this
/-! ### what functions do -/
def ArgsR (g:Gh) (hp:HP) (as:List (Nat×AV)) (vs:Array Value):Prop:=∀ i a,(i,a) ∈ as→AVR g hp a (vs.getD i undef)
def Answers (P:Program) (f:Nat) (args:Array Value) (w:World) (R:Value→World→Prop):Prop :=
 ((callFunc f args).run P w = .ok (.enter f args) w∧Calls P f args w fun e w2=>∃ V,e = .returned V∧R V w2) ∨ ∃ V w',(callFunc f args).run P w = .ok (.value V) w'∧R V w'
theorem Answers.mono {f:Nat} {args:Array Value} {w:World} {R R':Value→World→Prop} (h:Answers P f args w R) (k:∀ V w',R V w'→R' V w'):Answers P f args w R' :=
 h.imp (fun ⟨a,b⟩=>⟨a,Calls.mono b fun _ _ ⟨V,e,q⟩=>⟨V,e,k _ _ q⟩⟩) fun ⟨V,w',a,b⟩=>⟨V,w',a,k _ _ b⟩
def Outs:(ss:List Shape)→sumX ss→(Shape→List (Nat×AV)→Heap→Prop)→Prop
 | [],_,_=>False
 | [s],r,Q=>∃ as os,Laid s r as os∧Q s as os
 | s :: t :: r,x,Q=>match (x:s.X ⊕ sumX (t :: r)) with
  | .inl y=>∃ as os,Laid s y as os∧Q s as os
  | .inr y=>Outs (t :: r) y Q
def gK (keep:List Nat) (g:Gh):Gh:=⟨fun n=>if n ∈ keep then g.φ n else none,g.ro⟩
structure Sound (P:Program) (f:Nat) (S:FnSpec):Prop where
 wfi:S.ins.wf = true
 wfo:(S.outs.all Shape.wf) = true
 call:∀ (x:S.ins.X) (r:sumX S.outs),S.f x = some r→∀ (mt:Nat→Prop) (g:Gh) (w:World) (vs:Array Value) (as:List (Nat×AV)) (os:Heap),Laid S.ins x as os →
  Mem mt g (hget os) w.heap→(∀ b,w.heap.size ≤ b→mt b)→(∀ n,topKey S.ins.ob 0 ≤ n→g.φ n = none)→ArgsR g w.heap as vs →
  Answers P f vs w fun V w'=>Outs S.outs r fun _ as' os'=>∃ g',Ext mt (gK S.keep g) w g' w'∧Mem mt g' (hget os') w'.heap∧SVR g' w'.heap (mkRes as') V
/-! ### names changed -/
def plainC:CV→Bool
 | .row _ _=>false
 | .rptr _ _ _ _=>false
 | _=>true
theorem ren_ptrs {g g':Gh} {μ:Nat→Nat} {p:Nat→Prop} (h:∀ j Q,p j→g.φ j = some Q→g'.φ (μ j) = some Q):∀ (js:List Nat) (us:List Value),(∀ j,j ∈ js→p j)→All2 (IsPtr g) js us→All2 (IsPtr g') (js.map μ) us
 | [],[],_,_=>trivial
 | j :: js,u :: us,hp,⟨⟨Q,b,h1,h2⟩,hr⟩=>⟨⟨Q,b,h j Q (hp j List.mem_cons_self) h1,h2⟩,ren_ptrs h js us (fun k hk=>hp k (List.mem_cons_of_mem _ hk)) hr⟩
 | [],_ :: _,_,h=>h.elim
 | _ :: _,[],_,h=>h.elim
theorem VR.ren {g g':Gh} {hp:HP} {μ:Nat→Nat} {c:CV} {v:Value} (h:∀ j Q,j ∈ refs c→g.φ j = some Q→g'.φ (μ j) = some Q) (hro:plainC c = true ∨ g'.ro = g.ro) (hv:VR g hp c v):VR g' hp (renC μ c) v:=by
 cases c with
 | ptr n o=>obtain ⟨Q,b,h1,h2⟩:=hv;exact ⟨Q,b,h n Q (by simp [refs]) h1,h2⟩
 | eptr n i o=>obtain ⟨Q,b,h1,h2⟩:=hv;exact ⟨Q,b,h n Q (by simp [refs]) h1,h2⟩
 | aptr n _ _ _ _ _=>obtain ⟨Q,b,h1,h2⟩:=hv;exact ⟨Q,b,h n Q (by simp [refs]) h1,h2⟩
 | own n=>obtain ⟨Q,h1,h2⟩:=hv;exact ⟨Q,h n Q (by simp [refs]) h1,h2⟩
 | sub n _ _=>obtain ⟨Q,A,c,h1,h2⟩:=hv;exact ⟨Q,A,c,h n Q (by simp [refs]) h1,h2⟩
 | fn f js=>obtain ⟨us,h1,h2⟩:=hv;exact ⟨us,h1,ren_ptrs (p:=fun j=>j ∈ js) h js us (fun _ h=>h) h2⟩
 | row e l =>
  rcases hro with hro | hro
  ·cases hro
  ·exact Rd.stab (fun b h=>by rw [hro];exact h) (fun _ _=>rfl) (.row e) l [v] hv
 | rptr e l i o =>
  rcases hro with hro | hro
  ·cases hro
  ·obtain ⟨b,o,cs,t,fz,us,rest,q1,q2,q3,q4,q5,q6⟩:=hv
   exact ⟨b,o,cs,t,fz,us,rest,q1,by rw [hro];exact q2,q3,q4,RdL.mono (fun x vs=>Rd.stab (fun b h=>by rw [hro];exact h) (fun _ _=>rfl) e x vs) l us q5,q6⟩
 | int _ _=>exact hv
 | bool _=>exact hv
 | str _=>exact hv
 | fint _=>exact hv
 | cint _ _=>exact hv
 | nilp=>exact hv
 | nilf=>exact hv
 | nili=>exact hv
 | nils=>exact hv
 | ifc _ _ _=>exact hv
 | dead=>exact hv
theorem VRs.ren {g g':Gh} {hp:HP} {μ:Nat→Nat}:∀ {cs:List CV} {vs:List Value},(∀ j Q,j ∈ cs.flatMap refs→g.φ j = some Q→g'.φ (μ j) = some Q)→(cs.all plainC = true ∨ g'.ro = g.ro)→All2 (VR g hp) cs vs→All2 (VR g' hp) (cs.map (renC μ)) vs
 | [],[],_,_,_=>trivial
 | c :: cs,v :: vs,h,hro,⟨h1,h2⟩=>⟨VR.ren (fun j Q hj=>h j Q (by simp [hj])) (hro.imp (fun q=>by simp only [List.all_cons,Bool.and_eq_true] at q;exact q.1) id) h1,
   VRs.ren (fun j Q hj=>h j Q (by simp only [List.flatMap_cons,List.mem_append];exact .inr hj)) (hro.imp (fun q=>by simp only [List.all_cons,Bool.and_eq_true] at q;exact q.2) id) h2⟩
 | [],_ :: _,_,_,h=>h.elim
 | _ :: _,[],_,_,h=>h.elim
def plainA:AV→Bool
 | .c x=>plainC x
 | .agg xs=>xs.all plainC
theorem AVR.ren {g g':Gh} {hp:HP} {μ:Nat→Nat} {a:AV} {v:Value} (h:∀ j Q,j ∈ refsA a→g.φ j = some Q→g'.φ (μ j) = some Q) (hro:plainA a = true ∨ g'.ro = g.ro) (hv:AVR g hp a v):AVR g' hp (renA μ a) v:=by
 cases a with
 | c x=>exact VR.ren h hro hv
 | agg xs=>obtain ⟨vs,h1,h2⟩:=hv;exact ⟨vs,h1,VRs.ren h hro h2⟩
def plainO:Obj→Bool
 | .box cs=>cs.all plainC
 | .arr e _=>e.flat
 | .ice e _=>e.flat
theorem Rd.flat {ro ro':Nat→Prop} {hp hp':HP}:∀ (e:Ty) (x:e.T) (vs:List Value),e.flat = true→Rd ro hp e x vs→Rd ro' hp' e x vs
 | .int _,_,_,_,h=>h
 | .bool,_,_,_,h=>h
 | .str,_,_,_,h=>h
 | .row _,_,_,hf,_=>by cases hf
 | .prod a b,x,vs,hf,⟨u,v,hv,hu,hw⟩=>by
  simp only [Ty.flat,Bool.and_eq_true] at hf
  exact ⟨u,v,hv,Rd.flat a x.1 u hf.1 hu,Rd.flat b x.2 v hf.2 hw⟩
theorem ObjR.ren {g g':Gh} {hp:HP} {μ:Nat→Nat} {Q:Pl} {o:Obj} (h:∀ j Q,j ∈ refsO o→g.φ j = some Q→g'.φ (μ j) = some Q) (hro:plainO o = true ∨ g'.ro = g.ro) (hv:ObjR g hp Q o):ObjR g' hp Q (renO μ o):=by
 have arr:∀ (e:Ty) (l:List e.T),(e.flat = true ∨ g'.ro = g.ro)→ArrR g hp Q e l→ArrR g' hp Q e l:=fun e l hro hA=>by
  obtain ⟨a1,a2,a3,a4⟩:=hA
  refine ⟨a1,a2,a3,?_⟩
  cases hb:Q.blk with
  | none=>rw [hb] at a4;exact a4
  | some b =>
   rw [hb] at a4
   obtain ⟨a5,vs,t,us,rest,a6,a7,a8,a9⟩:=a4
   refine ⟨a5,vs,t,us,rest,a6,a7,?_,a9⟩
   rcases hro with hro | hro
   ·exact RdL.mono (fun x vs=>Rd.flat e x vs hro) l us a8
   ·rw [hro];exact a8
 cases o with
 | box cs=>obtain ⟨b,vs,t,h1,h2,h3⟩:=hv;exact ⟨b,vs,t,h1,h2,VRs.ren h hro h3⟩
 | arr e l=>exact arr e l hro hv
 | ice e l=>exact arr e l hro hv
/-! ### formats and their checks -/
theorem FitC.refs {c:CF} {v:CV} (h:FitC c v) (hc:cfOk c = true):∀ j,j ∈ Mx.refs v→j < keys:=by
 intro j hj
 have hlt:∀ k,Nat.blt k keys = true→k < keys:=fun k hk=>Nat.le_of_ble_eq_true hk
 cases c with
 | own n=>obtain rfl:v = _:=h;simp only [Mx.refs,List.mem_singleton] at hj;subst hj;simp only [cfOk,refsF,List.all_cons,List.all_nil,Bool.and_true] at hc;exact hlt _ hc
 | ptr n o=>obtain rfl:v = _:=h;simp only [Mx.refs,List.mem_singleton] at hj;subst hj;simp only [cfOk,refsF,List.all_cons,List.all_nil,Bool.and_true] at hc;exact hlt _ hc
 | eptr n o=>obtain ⟨i,rfl⟩:=h;simp only [Mx.refs,List.mem_singleton] at hj;subst hj;simp only [cfOk,refsF,List.all_cons,List.all_nil,Bool.and_true] at hc;exact hlt _ hc
 | fn f js=>obtain rfl:v = _:=h;simp only [Mx.refs] at hj;simp only [cfOk,refsF,List.all_eq_true] at hc;exact hlt _ (hc j hj)
 | int k=>obtain ⟨n,rfl⟩:=h;simp [Mx.refs] at hj
 | bool=>obtain ⟨n,rfl⟩:=h;simp [Mx.refs] at hj
 | str=>obtain ⟨n,rfl⟩:=h;simp [Mx.refs] at hj
 | fint=>obtain ⟨n,rfl⟩:=h;simp [Mx.refs] at hj
 | cint=>obtain ⟨n,m,rfl⟩:=h;simp [Mx.refs] at hj
 | row e=>obtain ⟨n,rfl⟩:=h;simp [Mx.refs] at hj
 | bptr e=>obtain ⟨n,rfl⟩:=h;simp [Mx.refs] at hj
 | nilp=>obtain rfl:v = _:=h;simp [Mx.refs] at hj
 | nilf=>obtain rfl:v = _:=h;simp [Mx.refs] at hj
 | nili=>obtain rfl:v = _:=h;simp [Mx.refs] at hj
 | nils=>obtain rfl:v = _:=h;simp [Mx.refs] at hj
 | dead=>obtain rfl:v = _:=h;simp [Mx.refs] at hj
theorem FitC.plain {c:CF} {v:CV} (h:FitC c v) (hc:flatCF c = true):plainC v = true:=by
 cases c with
 | row e=>cases hc
 | bptr e=>cases hc
 | own n=>obtain rfl:v = _:=h;rfl
 | ptr n o=>obtain rfl:v = _:=h;rfl
 | eptr n o=>obtain ⟨i,rfl⟩:=h;rfl
 | fn f js=>obtain rfl:v = _:=h;rfl
 | int k=>obtain ⟨n,rfl⟩:=h;rfl
 | bool=>obtain ⟨n,rfl⟩:=h;rfl
 | str=>obtain ⟨n,rfl⟩:=h;rfl
 | fint=>obtain ⟨n,rfl⟩:=h;rfl
 | cint=>obtain ⟨n,m,rfl⟩:=h;rfl
 | nilp=>obtain rfl:v = _:=h;rfl
 | nilf=>obtain rfl:v = _:=h;rfl
 | nili=>obtain rfl:v = _:=h;rfl
 | nils=>obtain rfl:v = _:=h;rfl
 | dead=>obtain rfl:v = _:=h;rfl
theorem FitCs.refs:∀ {cs:List CF} {vs:List CV},All2 FitC cs vs→cs.all cfOk = true→∀ j,j ∈ vs.flatMap Mx.refs→j < keys
 | [],[],_,_,j,hj=>by simp at hj
 | c :: cs,v :: vs,⟨h1,h2⟩,hc,j,hj=>by
  simp only [List.all_cons,Bool.and_eq_true] at hc
  simp only [List.flatMap_cons,List.mem_append] at hj
  exact hj.elim (h1.refs hc.1 j) (FitCs.refs h2 hc.2 j)
 | [],_ :: _,h,_,_,_=>h.elim
 | _ :: _,[],h,_,_,_=>h.elim
theorem FitCs.plain:∀ {cs:List CF} {vs:List CV},All2 FitC cs vs→cs.all flatCF = true→vs.all plainC = true
 | [],[],_,_=>rfl
 | c :: cs,v :: vs,⟨h1,h2⟩,hc=>by
  simp only [List.all_cons,Bool.and_eq_true] at hc ⊢
  exact ⟨h1.plain hc.1,FitCs.plain h2 hc.2⟩
 | [],_ :: _,h,_=>h.elim
 | _ :: _,[],h,_=>h.elim
theorem FitA.refs {a:AF} {v:AV} (h:FitA a v) (hc:afOk a = true):∀ j,j ∈ refsA v→j < keys:=by
 cases a with
 | c x=>cases v with
  | c y=>exact FitC.refs h hc
  | agg _=>exact h.elim
 | agg xs=>cases v with
  | c y=>exact h.elim
  | agg ys=>exact FitCs.refs h hc
theorem FitA.plain {a:AF} {v:AV} (h:FitA a v) (hc:flatAF a = true):plainA v = true:=by
 cases a with
 | c x=>cases v with
  | c y=>exact FitC.plain h hc
  | agg _=>exact h.elim
 | agg xs=>cases v with
  | c y=>exact h.elim
  | agg ys=>exact FitCs.plain h hc
theorem FitO.refs {a:OF} {v:Obj} (h:FitO a v) (hc:ofOk a = true):∀ j,j ∈ refsO v→j < keys:=by
 cases a with
 | box cs=>cases v with
  | box vs=>exact FitCs.refs h hc
  | arr _ _=>exact h.elim
  | ice _ _=>exact h.elim
 | arr e=>cases v with
  | box vs=>exact h.elim
  | arr _ _=>intro j hj;simp [refsO] at hj
  | ice _ _=>exact h.elim
theorem FitO.plain {a:OF} {v:Obj} (h:FitO a v) (hc:flatOF a = true):plainO v = true:=by
 cases a with
 | box cs=>cases v with
  | box vs=>exact FitCs.plain h hc
  | arr _ _=>exact h.elim
  | ice _ _=>exact h.elim
 | arr e=>cases v with
  | box vs=>exact h.elim
  | arr e' _=>obtain rfl:e' = e:=h;exact hc
  | ice _ _=>exact h.elim
theorem FitO.live {a:OF} {v:Obj} (h:FitO a v):v.iced = false:=by
 cases a with
 | box cs=>cases v with
  | ice _ _=>exact h.elim
  | _=>rfl
 | arr e=>cases v with
  | ice _ _=>exact h.elim
  | _=>rfl
theorem all2_mem {α β:Type} {R:α→β→Prop}:∀ {l:List α} {m:List β} {y:β},All2 R l m→y ∈ m→∃ x,x ∈ l∧R x y
 | [],[],y,_,h=>by cases h
 | a :: l,b :: m,y,⟨h1,h2⟩,h=>by
  rcases List.mem_cons.1 h with rfl | h
  ·exact ⟨a,List.mem_cons_self,h1⟩
  ·obtain ⟨x,k1,k2⟩:=all2_mem h2 h
   exact ⟨x,List.mem_cons_of_mem _ k1,k2⟩
 | [],_ :: _,_,h,_=>h.elim
 | _ :: _,[],_,h,_=>h.elim
theorem hget_mem:∀ {os:Heap} {j:Nat} {o:Obj},hget os j = some o→(j,o) ∈ os
 | [],j,o,h=>by cases h
 | (k,o') :: os,j,o,h=>by
  rw [hget_cons] at h
  by_cases e:k = j
  ·rw [if_pos e] at h;cases h;subst e;exact List.mem_cons_self
  ·rw [if_neg e] at h;exact List.mem_cons_of_mem _ (hget_mem h)
theorem mem_hget:∀ {ss:List (Nat×OF)} {os:Heap} {j:Nat} {o:Obj},nodupK ss = true→All2 (fun a b=>a.1 = b.1∧FitO a.2 b.2) ss os→(j,o) ∈ os→hget os j = some o
 | [],[],j,o,_,_,h=>by cases h
 | (k,f) :: ss,(k',o') :: os,j,o,hn,⟨h1,h2⟩,h=>by
  obtain rfl:k = k':=h1.1
  simp only [nodupK,Bool.and_eq_true,Bool.not_eq_true',List.any_eq_false] at hn
  rw [hget_cons]
  rcases List.mem_cons.1 h with h | h
  ·cases h;rw [if_pos rfl]
  ·have hk:k ≠ j:=fun e=>by
    obtain ⟨x,hx,hxe,_⟩:=all2_mem h2 h
    have:=hn.1 x hx
    rw [hxe] at this
    simp only at this
    rw [e] at this
    simp [beq_self] at this
   rw [if_neg hk]
   exact mem_hget hn.2 h2 h
 | [],_ :: _,_,_,_,h,_=>h.elim
 | _ :: _,[],_,_,_,h,_=>h.elim
end Go.Proofs.YthdgahpomhnidaaGreat.Mx
/- Calls of functions told by their shapes do what the model's do: the caller's side (own work). -/
namespace Go.Proofs.YthdgahpomhnidaaGreat.Mx
open Go
set_option autoImplicit false
set_option linter.unusedVariables false
set_option linter.unusedSimpArgs false
universe u
variable {P:Program}
theorem Mem.sub {mt:Nat→Prop} {g:Gh} {H H':HF} {hp:HP} (M:Mem mt g H hp) (h:∀ n o,H' n = some o→H n = some o):Mem mt g H' hp :=
 ⟨fun n o k=>M.obj n o (h n o k),fun n o Q b k=>M.own n o Q b (h n o k),fun n o Q b k=>M.ice n o Q b (h n o k),fun n m o o' Q R b e k k'=>M.sep n m o o' Q R b e (h n o k) (h m o' k'),M.ro⟩
theorem collect_eval:∀ (f:Nat) (t:List Nat) (acc:Heap) (base:Nat) (H H':HF) (fp fp':FP) (a:Heap),(∀ n o,hget acc n = some o→H n = some o)→(collect f t acc).eval base H fp = some (a,H',fp')→H' = H∧∀ n o,hget a n = some o→H n = some o
 | 0,t,acc,base,H,H',fp,fp',a,_,h=>by cases h
 | f + 1,[],acc,base,H,H',fp,fp',a,hacc,h=>by
  simp only [collect,MA.eval,Option.some.injEq,Prod.mk.injEq] at h
  obtain ⟨rfl,rfl,_⟩:=h
  exact ⟨rfl,hacc⟩
 | f + 1,n :: t,acc,base,H,H',fp,fp',a,hacc,h=>by
  unfold collect at h
  split at h
  ·exact collect_eval f t acc base H H' fp fp' a hacc h
  ·simp only [MA.eval] at h
   cases ho:H n with
   | none=>rw [ho] at h;cases h
   | some o =>
    rw [ho] at h
    refine collect_eval f _ _ base H H' _ fp' a (fun k q hk=>?_) h
    rw [hget_cons] at hk
    by_cases e:n = k
    ·rw [if_pos e] at hk;cases hk;rw [← e];exact ho
    ·rw [if_neg e] at hk;exact hacc k q hk
theorem blt_lt {a b:Nat} (h:Nat.blt a b = true):a < b:=Nat.le_of_ble_eq_true h
theorem okAsg_spec {m:Nat} {h:Heap}:∀ (l:List (Nat×Option Nat)),okAsg m h l = true→∀ j x,aget l j = some x→j < m∧∀ n,x = some n→hget h n ≠ none
 | [],_,j,x,hx=>by cases hx
 | (k,none) :: r,hl,j,x,hx=>by
  simp only [okAsg] at hl
  cases hb:Nat.blt k m with
  | false=>rw [hb] at hl;cases hl
  | true =>
   rw [hb] at hl
   rw [aget_cons] at hx
   by_cases e:k = j
   ·rw [if_pos e] at hx;cases hx;exact ⟨e ▸ blt_lt hb,fun n hn=>by cases hn⟩
   ·rw [if_neg e] at hx;exact okAsg_spec r hl j x hx
 | (k,some n) :: r,hl,j,x,hx=>by
  simp only [okAsg] at hl
  cases ho:hget h n with
  | none=>rw [ho] at hl;cases hl
  | some o =>
   rw [ho] at hl
   cases hb:Nat.blt k m with
   | false=>rw [hb] at hl;cases hl
   | true =>
    rw [hb] at hl
    rw [aget_cons] at hx
    by_cases e:k = j
    ·rw [if_pos e] at hx;cases hx;exact ⟨e ▸ blt_lt hb,fun n' hn=>by cases hn;rw [ho];simp⟩
    ·rw [if_neg e] at hx;exact okAsg_spec r hl j x hx
theorem aget_mem:∀ {l:List (Nat×Option Nat)} {j:Nat} {x:Option Nat},aget l j = some x→(j,x) ∈ l
 | [],j,x,h=>by cases h
 | (k,y) :: l,j,x,h=>by
  rw [aget_cons] at h
  by_cases e:k = j
  ·rw [if_pos e] at h;cases h;subst e;exact List.mem_cons_self
  ·rw [if_neg e] at h;exact List.mem_cons_of_mem _ (aget_mem h)
section
variable {base:Nat} {H':HF} {fp':FP} {v:SV}
theorem strike_eval {kp:List (Nat×Option Nat)} {h:Heap} {k:MA SV}:∀ (asg:List (Nat×Option Nat)) (H:HF) (fp:FP),(strike kp h asg k).eval base H fp = some (v,H',fp') →
  ∃ H1 fp1,k.eval base H1 fp1 = some (v,H',fp')∧(∀ n,H1 n = H n ∨ H1 n = none)∧∀ j n,(j,some n) ∈ asg→(aget kp j = none ∨ hget h j = none)→H1 n = none
 | [],H,fp,hk=>⟨H,fp,hk,fun n=>.inl rfl,fun j n h=>by cases h⟩
 | (j,none) :: asg,H,fp,hk=>by
  obtain ⟨H1,fp1,h1,h2,h3⟩:=strike_eval asg H fp (show (strike kp h asg k).eval base H fp = _ from hk)
  refine ⟨H1,fp1,h1,h2,fun i n hm hn=>h3 i n ?_ hn⟩
  rcases List.mem_cons.1 hm with e | hm
  ·cases e
  ·exact hm
 | (j,some m) :: asg,H,fp,hk=>by
  unfold strike at hk
  split at hk
  ·rename_i x o hx ho
   obtain ⟨H1,fp1,h1,h2,h3⟩:=strike_eval asg H fp hk
   refine ⟨H1,fp1,h1,h2,fun i n hm hn=>?_⟩
   rcases List.mem_cons.1 hm with e | hm
   ·cases e;rcases hn with hn | hn
    ·rw [hx] at hn;cases hn
    ·rw [ho] at hn;cases hn
   ·exact h3 i n hm hn
  ·obtain ⟨fp2,h0⟩:=del_eval hk
   obtain ⟨H1,fp1,h1,h2,h3⟩:=strike_eval asg _ _ h0
   refine ⟨H1,fp1,h1,fun n=>?_,fun i n hm hn=>?_⟩
   ·rcases h2 n with q | q
    ·by_cases e:n = m
     ·rw [e,upd_same] at q;exact .inr (e ▸ q)
     ·rw [upd_ne _ _ e] at q;exact .inl q
    ·exact .inr q
   ·rcases List.mem_cons.1 hm with e | hm
    ·cases e
     rcases h2 m with q | q
     ·rw [upd_same] at q;exact q
     ·exact q
    ·exact h3 i n hm hn
theorem kept_get {keep:List Nat}:∀ (l:List (Nat×Option Nat)) (j:Nat),aget (kept keep l) j = if j ∈ keep then aget l j else none
 | [],j=>by simp [kept,aget]
 | (k,x) :: l,j=>by
  simp only [kept]
  cases hb:keep.any (Nat.beq k) with
  | true =>
   simp only
   rw [aget_cons,aget_cons,kept_get l j]
   by_cases e:k = j
   ·subst e
    have hm:k ∈ keep:=by
     obtain ⟨y,h1,h2⟩:=List.any_eq_true.1 hb
     rw [beq_eq h2];exact h1
    simp [hm]
   ·simp only [if_neg e]
  | false =>
   simp only
   rw [aget_cons,kept_get l j]
   by_cases e:k = j
   ·subst e
    have hm:¬ k ∈ keep:=fun hm=>by
     have:keep.any (Nat.beq k) = true:=List.any_eq_true.2 ⟨k,hm,beq_self k⟩
     rw [hb] at this;cases this
    simp [hm]
   ·rw [if_neg e]
theorem mu_some {b:Nat} {asg:List (Nat×Option Nat)} {j n:Nat} (h:aget asg j = some (some n)):mu b asg j = n:=by simp only [mu,h]
theorem mu_other {b:Nat} {asg:List (Nat×Option Nat)} {j:Nat} (h:∀ n,aget asg j ≠ some (some n)):mu b asg j = b + j:=by
 unfold mu
 split
 ·rename_i n hn;exact absurd hn (h n)
 ·rfl
theorem layObs_eval {asg:List (Nat×Option Nat)} {μ:Nat→Nat} {k:MA SV}:∀ (h:Heap) (H:HF) (fp:FP),(layObs μ asg h k).eval base H fp = some (v,H',fp') →
  ∃ H1 fp1,k.eval base H1 fp1 = some (v,H',fp')∧∀ n,(∃ j o,(j,o) ∈ h∧mu base asg j = n∧H1 n = some (renO μ o)) ∨ ((∀ j o,(j,o) ∈ h→mu base asg j ≠ n)∧H1 n = H n)
 | [],H,fp,hk=>⟨H,fp,hk,fun n=>.inr ⟨fun j o h=>(by cases h),rfl⟩⟩
 | (j,o) :: h,H,fp,hk=>by
  have fin:∀ H0 fp0 q,H0 = upd H q (some (renO μ o))→mu base asg j = q→(layObs μ asg h k).eval base H0 fp0 = some (v,H',fp') →
    ∃ H1 fp1,k.eval base H1 fp1 = some (v,H',fp')∧∀ n,(∃ j' o',(j',o') ∈ (j,o) :: h∧mu base asg j' = n∧H1 n = some (renO μ o')) ∨ ((∀ j' o',(j',o') ∈ (j,o) :: h→mu base asg j' ≠ n)∧H1 n = H n):=fun H0 fp0 q hH0 hq hk=>by
   obtain ⟨H1,fp1,h1,h2⟩:=layObs_eval h H0 fp0 hk
   refine ⟨H1,fp1,h1,fun n=>?_⟩
   rcases h2 n with ⟨j',o',h3,h4,h5⟩ | ⟨h3,h4⟩
   ·exact .inl ⟨j',o',List.mem_cons_of_mem _ h3,h4,h5⟩
   ·by_cases e:n = q
    ·rw [e,hH0,upd_same] at h4;exact .inl ⟨j,o,List.mem_cons_self,by rw [hq,e],by rw [e];exact h4⟩
    ·rw [hH0,upd_ne _ _ e] at h4
     refine .inr ⟨fun j' o' hm=>?_,h4⟩
     rcases List.mem_cons.1 hm with hm | hm
     ·cases hm;rw [hq];exact Ne.symm e
     ·exact h3 j' o' hm
  unfold layObs at hk
  split at hk
  ·rename_i n hn
   simp only [MA.eval] at hk
   cases ho:H n with
   | none=>rw [ho] at hk;cases hk
   | some o1=>rw [ho] at hk;exact fin _ _ n rfl (mu_some hn) hk
  ·rename_i hn
   obtain ⟨fp2,h1,h2,h3⟩:=new_eval hk
   exact fin _ _ (base + j) rfl (mu_other fun n e=>hn n e) h3
theorem finish1_eval {kp asg:List (Nat×Option Nat)} {s:Shape} {r:s.X} {H:HF} {fp:FP} {as:List (Nat×AV)} {os:Heap} (L:Laid s r as os) (h:(finish1 kp asg s r).eval base H fp = some (v,H',fp')) :
  v = mkRes (as.map fun a=>(a.1,renA (mu base kp) a.2))∧∃ H1:HF,(∀ n,H1 n = H n ∨ H1 n = none)∧(∀ j n,(j,some n) ∈ asg→(aget kp j = none ∨ hget os j = none)→H1 n = none) ∧
   ∀ n,(∃ j o,(j,o) ∈ os∧mu base kp j = n∧H' n = some (renO (mu base kp) o)) ∨ ((∀ j o,(j,o) ∈ os→mu base kp j ≠ n)∧H' n = H1 n):=by
 have h1:(s.encK r fun as h=>strike kp h asg (layObs (mu base kp) kp h (.pure (mkRes (as.map fun a=>(a.1,renA (mu base kp) a.2)))))).eval base H fp = some (v,H',fp'):=h
 rw [L.enc1] at h1
 obtain ⟨H1,fp1,h2,h3,h4⟩:=strike_eval asg H fp h1
 obtain ⟨H2,fp2,k1,k2⟩:=layObs_eval os H1 fp1 h2
 simp only [MA.eval,Option.some.injEq,Prod.mk.injEq] at k1
 obtain ⟨rfl,rfl,_⟩:=k1
 exact ⟨rfl,H1,h3,h4,k2⟩
end
/-! ### the caller's memory after a call -/
def mtOf (w:World) (g:Gh) (H:HF) (d:DS) (b:Nat):Prop:=w.heap.size ≤ b ∨ ∃ j n o Q,aget d.asg j = some (some n)∧H n = some o∧o.iced = false∧g.φ n = some Q∧Q.blk = some b
def gBack (base:Nat) (ro:Nat→Prop) (g g':Gh):Gh:=⟨fun n=>if base ≤ n∧n < base + keys then g'.φ (n - base) else g.φ n,ro⟩
theorem mkRes_ren {g g':Gh} {hp:HP} {μ:Nat→Nat} {as:List (Nat×AV)} {V:Value} (h:∀ a,a ∈ as→∀ v,AVR g hp a.2 v→AVR g' hp (renA μ a.2) v) (hv:SVR g hp (mkRes as) V):SVR g' hp (mkRes (as.map fun a=>(a.1,renA μ a.2))) V:=by
 have tup:∀ (l:List (Nat×AV)) (vs:List Value),(∀ a,a ∈ l→∀ v,AVR g hp a.2 v→AVR g' hp (renA μ a.2) v)→All2 (AVR g hp) (l.map (·.2)) vs→All2 (AVR g' hp) ((l.map fun a=>(a.1,renA μ a.2)).map (·.2)) vs:=by
  intro l
  induction l with
  | nil=>intro vs _ h;cases vs with | nil=>trivial | cons _ _=>exact h.elim
  | cons a l ih =>
   intro vs hl h
   cases vs with
   | nil=>exact h.elim
   | cons v vs=>exact ⟨hl a List.mem_cons_self v h.1,ih vs (fun b hb=>hl b (List.mem_cons_of_mem _ hb)) h.2⟩
 match as,h,hv with
 | [],_,hv =>
  obtain ⟨vs,h1,h2⟩:=hv
  exact ⟨vs,h1,tup [] vs (fun a ha=>by cases ha) h2⟩
 | [a],h,hv=>exact h a List.mem_cons_self V hv
 | a :: b :: r,h,hv =>
  obtain ⟨vs,h1,h2⟩:=hv
  exact ⟨vs,h1,tup (a :: b :: r) vs h h2⟩
section
variable {mt:Nat→Prop} {g:Gh} {H:HF} {w:World} {base:Nat}
theorem call_post {keep:List Nat} {hS:Heap} {s so:Shape} {d:DS} {gA:Nat→Option AV} {x:s.X} {xas:List (Nat×AV)} {xos:Heap} {r:so.X} {as:List (Nat×AV)} {os:Heap} {g':Gh} {w':World} {V:Value} {v:SV} {H':HF} {fp fp':FP}
  (M:Mem mt g H w.heap) (hm:∀ b,w.heap.size ≤ b→mt b) (hf:∀ n,base ≤ n→n < base + keys→g.φ n = none)
  (hsub:∀ n o,hget hS n = some o→H n = some o) (R:Read s [] (hget hS) gA x d xas xos) (hok:okAsg (topKey s.ob 0) hS d.asg = true) (hwf:so.wf = true) (hfl:d.frz = [] ∨ so.flat = true)
  (L:Laid so r as os) (E:Ext (mtOf w g H d) (gK keep (gE s d g)) w g' w') (M':Mem (mtOf w g H d) g' (hget os) w'.heap) (hv:SVR g' w'.heap (mkRes as) V)
  (hev:(finish1 (kept keep d.asg) d.asg so r).eval base H fp = some (v,H',fp')):Post mt g w base H' v V w':=by
 obtain ⟨rfl,H1,k1,k2,k3⟩:=finish1_eval L hev
 simp only [Shape.wf,Bool.and_eq_true] at hwf
 obtain ⟨⟨hnd,hobs⟩,hsls⟩:=hwf
 have MS:Mem mt g (hget hS) w.heap:=M.sub hsub
 -- the ground that nobody writes to
 have hgE:∀ b,g.ro b→(gE s d g).ro b:=fun b h=>.inl h
 have hmt:∀ b,mtOf w g H d b→mt b:=fun b h=>by
  rcases h with h | ⟨j,n,o,Q,h1,h2,h3,h4,h5⟩
  ·exact hm b h
  ·exact (M.own n o Q b h2 h3 h4 h5).1
 obtain ⟨ro',hro1,hro2,hro3⟩:∃ ro':Nat→Prop,(∀ b,g.ro b→ro' b)∧(∀ b,ro' b→g'.ro b∧((gE s d g).ro b→g.ro b))∧(ro' = g'.ro ∨ so.flat = true):=by
  rcases hfl with h0 | h0
  ·refine ⟨g'.ro,fun b h=>E.ro b (hgE b h),fun b h=>⟨h,fun h2=>?_⟩,.inl rfl⟩
   rcases h2 with h2 | ⟨n,hn,_⟩
   ·exact h2
   ·rw [h0] at hn;cases hn
  ·exact ⟨g.ro,fun b h=>h,fun b h=>⟨E.ro b (hgE b h),fun _=>h⟩,.inr h0⟩
 have hroM:∀ b,ro' b→g.ro b ∨ mtOf w g H d b:=fun b hb=>by
  obtain ⟨h1,h2⟩:=hro2 b hb
  exact (E.ro' b h1).imp h2 id
 -- keys
 have kget:∀ j x,aget (kept keep d.asg) j = some x→j ∈ keep∧aget d.asg j = some x:=fun j x h=>by
  rw [kept_get] at h
  split at h
  ·rename_i hk;exact ⟨hk,h⟩
  ·cases h
 have hmu:∀ j Q,j < keys→g'.φ j = some Q→(gBack base ro' g g').φ (mu base (kept keep d.asg) j) = some Q:=fun j Q hj hQ=>by
  cases ha:aget (kept keep d.asg) j with
  | none =>
   rw [mu_other (fun n e=>by rw [ha] at e;cases e)]
   simp only [gBack]
   rw [if_pos ⟨Nat.le_add_right _ _,by omega⟩,Nat.add_sub_cancel_left]
   exact hQ
  | some y =>
   cases y with
   | none =>
    rw [mu_other (fun n e=>by rw [ha] at e;cases e)]
    simp only [gBack]
    rw [if_pos ⟨Nat.le_add_right _ _,by omega⟩,Nat.add_sub_cancel_left]
    exact hQ
   | some n =>
    rw [mu_some ha]
    obtain ⟨hkp,ha'⟩:=kget j _ ha
    obtain ⟨_,h2⟩:=okAsg_spec d.asg hok j _ ha'
    cases ho:hget hS n with
    | none=>exact absurd ho (h2 n rfl)
    | some o =>
     obtain ⟨Q',hQ',_⟩:=MS.obj n o ho
     have h3:=E.phi j Q' (by show (if j ∈ keep then _ else none) = _;rw [if_pos hkp,gE_some ha'];exact hQ')
     rw [hQ] at h3
     cases h3
     simp only [gBack]
     rw [if_neg]
     ·exact hQ'
     ·rintro ⟨h4,h5⟩;rw [hf n h4 h5] at hQ';cases hQ'
 have hkeep:∀ b,b < w.heap.size→(¬ mtOf w g H d b ∨ g.ro b)→w'.heap[b]? = w.heap[b]?:=fun b h1 h2=>E.keep b h1 (h2.imp id (hgE b))
 have ext:Ext mt g w (gBack base ro' g g') w':=by
  refine ⟨E.os,E.tape,E.output,E.size,fun b h1 h2=>hkeep b h1 (h2.imp (fun q q'=>q (hmt b q')) id),hro1,fun b hb=>(hroM b hb).imp id (hmt b),fun n Q hQ=>?_⟩
  simp only [gBack]
  rw [if_neg]
  ·exact hQ
  ·rintro ⟨h4,h5⟩;rw [hf n h4 h5] at hQ;cases hQ
 have st:Stab g w.heap (gBack base ro' g g') w'.heap:=ext.stab M.ro
 -- what lies under which key
 have new:∀ j o,(j,o) ∈ os→j < keys∧hget os j = some o∧o.iced = false∧(∀ i,i ∈ refsO o→i < keys)∧(so.flat = true→plainO o = true):=fun j o hjo=>by
  obtain ⟨y,hy,h1,h2⟩:=all2_mem L.ob hjo
  have h3:(Nat.blt y.1 keys && ofOk y.2) = true:=List.all_eq_true.1 hobs y hy
  simp only [Bool.and_eq_true] at h3
  have h1':y.1 = j:=h1
  refine ⟨by rw [← h1'];exact blt_lt h3.1,mem_hget hnd L.ob hjo,h2.live,h2.refs h3.2,fun hfl=>?_⟩
  simp only [Shape.flat,Bool.and_eq_true] at hfl
  exact h2.plain (List.all_eq_true.1 hfl.2 y hy)
 have gro:∀ p:Bool,(so.flat = true→p = true)→p = true ∨ (gBack base ro' g g').ro = g'.ro:=fun p hp=>hro3.elim .inr fun h=>.inl (hp h)
 have view:∀ n o,H' n = some o→(∃ j o1,(j,o1) ∈ os∧mu base (kept keep d.asg) j = n∧o = renO (mu base (kept keep d.asg)) o1) ∨ (H n = some o∧∀ j,aget d.asg j ≠ some (some n)):=fun n o hn=>by
  rcases k3 n with ⟨j,o1,h1,h2,h3⟩ | ⟨h1,h2⟩
  ·rw [hn] at h3;cases h3;exact .inl ⟨j,o1,h1,h2,rfl⟩
  ·rw [hn] at h2
   refine .inr ⟨?_,fun j hj=>?_⟩
   ·rcases k1 n with q | q
    ·rw [← q];exact h2.symm
    ·rw [q] at h2;cases h2
   ·cases hkp:aget (kept keep d.asg) j with
    | none=>rw [k2 j n (aget_mem hj) (.inl hkp)] at h2;cases h2
    | some y =>
     have:=(kget j y hkp).2
     rw [hj] at this
     cases this
     cases ho:hget os j with
     | none=>rw [k2 j n (aget_mem hj) (.inr ho)] at h2;cases h2
     | some o2=>exact h1 j o2 (hget_mem ho) (mu_some hkp)
 have iced:∀ o,(renO (mu base (kept keep d.asg)) o).iced = o.iced:=fun o=>by cases o <;> rfl
 have oldφ:∀ n o Q,H n = some o→(gBack base ro' g g').φ n = some Q→g.φ n = some Q:=fun n o Q hn hQ=>by
  obtain ⟨Q',hQ',_⟩:=M.obj n o hn
  have:=ext.phi n Q' hQ'
  rw [hQ] at this
  cases this
  exact hQ'
 have newφ:∀ j o Q,(j,o) ∈ os→(gBack base ro' g g').φ (mu base (kept keep d.asg) j) = some Q→g'.φ j = some Q:=fun j o Q hj hQ=>by
  obtain ⟨h1,h2,_⟩:=new j o hj
  obtain ⟨Q',hQ',_⟩:=M'.obj j o h2
  have:=hmu j Q' h1 hQ'
  rw [hQ] at this
  cases this
  exact hQ'
 -- an untouched key's block is none of the callee's
 have far:∀ n o Q b,H n = some o→(∀ j,aget d.asg j ≠ some (some n))→g.φ n = some Q→Q.blk = some b→¬ mtOf w g H d b:=fun n o Q b hn hno hQ hb hmo=>by
  rcases hmo with h | ⟨j,n',o',Q',h1,h2,h3,h4,h5⟩
  ·obtain ⟨Q',hQ',hO⟩:=M.obj n o hn
   rw [hQ] at hQ';cases hQ'
   exact absurd (hO.lt b hb) (Nat.not_lt.2 h)
  ·exact M.sep n n' o o' Q Q' b (fun e=>hno j (by rw [e];exact h1)) hn h2 hQ h4 hb h5
 refine ⟨gBack base ro' g g',ext,fun n hn=>if_neg hn,?_,?_⟩
 ·refine ⟨fun n o hn=>?_,fun n o Q b hn hi hQ hb=>?_,fun n o Q b hn hi hQ hb=>?_,fun n m o o' Q Q' b hnm hn hm' hQ hQ' hb=>?_,fun b hb=>?_⟩
  ·rcases view n o hn with ⟨j,o1,h1,rfl,rfl⟩ | ⟨h1,h2⟩
   ·obtain ⟨a1,a2,a3,a4,a5⟩:=new j o1 h1
    obtain ⟨Q,hQ,hO⟩:=M'.obj j o1 a2
    exact ⟨Q,hmu j Q a1 hQ,ObjR.ren (fun i R hi hR=>hmu i R (a4 i hi) hR) (gro _ a5) hO⟩
   ·obtain ⟨Q,hQ,hO⟩:=M.obj n o h1
    refine ⟨Q,ext.phi n Q hQ,hO.stab st fun b hb=>?_⟩
    exact hkeep b (hO.lt b hb) (.inl (far n o Q b h1 h2 hQ hb))
  ·rcases view n o hn with ⟨j,o1,h1,rfl,rfl⟩ | ⟨h1,h2⟩
   ·obtain ⟨a1,a2,a3,a4,a5⟩:=new j o1 h1
    obtain ⟨b1,b2⟩:=M'.own j o1 Q b a2 a3 (newφ j o1 Q h1 hQ) hb
    exact ⟨hmt b b1,fun h=>b2 (hro2 b h).1⟩
   ·have hQ':=oldφ n o Q h1 hQ
    obtain ⟨b1,b2⟩:=M.own n o Q b h1 hi hQ' hb
    exact ⟨b1,fun h=>(hroM b h).elim b2 (far n o Q b h1 h2 hQ' hb)⟩
  ·rcases view n o hn with ⟨j,o1,h1,rfl,rfl⟩ | ⟨h1,h2⟩
   ·rw [iced,(new j o1 h1).2.2.1] at hi;cases hi
   ·exact hro1 b (M.ice n o Q b h1 hi (oldφ n o Q h1 hQ) hb)
  ·rcases view n o hn with ⟨j,o1,h1,rfl,rfl⟩ | ⟨h1,h2⟩
   ·obtain ⟨a1,a2,a3,a4,a5⟩:=new j o1 h1
    have hQj:=newφ j o1 Q h1 hQ
    rcases view m o' hm' with ⟨i,o2,c1,rfl,rfl⟩ | ⟨c1,c2⟩
    ·exact M'.sep j i o1 o2 Q Q' b (fun e=>hnm (by rw [e])) a2 (new i o2 c1).2.1 hQj (newφ i o2 Q' c1 hQ') hb
    ·intro hb'
     exact far m o' Q' b c1 c2 (oldφ m o' Q' c1 hQ') hb' (M'.own j o1 Q b a2 a3 hQj hb).1
   ·have hQn:=oldφ n o Q h1 hQ
    rcases view m o' hm' with ⟨i,o2,c1,rfl,rfl⟩ | ⟨c1,c2⟩
    ·intro hb'
     obtain ⟨a1,a2,a3,_⟩:=new i o2 c1
     exact far n o Q b h1 h2 hQn hb (M'.own i o2 Q' b a2 a3 (newφ i o2 Q' c1 hQ') hb').1
    ·exact M.sep n m o o' Q Q' b hnm h1 c1 hQn (oldφ m o' Q' c1 hQ') hb
  ·exact M'.ro b (hro2 b hb).1
 ·refine mkRes_ren (fun a ha v hav=>?_) hv
  obtain ⟨y,hy,h1,h2⟩:=all2_mem L.sl ha
  refine AVR.ren (fun i R hi hR=>hmu i R (h2.refs (List.all_eq_true.1 hsls y hy) i hi) hR) (gro _ fun hfl=>?_) hav
  simp only [Shape.flat,Bool.and_eq_true] at hfl
  exact h2.plain (List.all_eq_true.1 hfl.1 y hy)
theorem finish_post {keep:List Nat} {hS:Heap} {s:Shape} {d:DS} {gA:Nat→Option AV} {x:s.X} {xas:List (Nat×AV)} {xos:Heap} {w':World} {V:Value} {v:SV} {H':HF} {fp fp':FP}
  (M:Mem mt g H w.heap) (hm:∀ b,w.heap.size ≤ b→mt b) (hf:∀ n,base ≤ n→n < base + keys→g.φ n = none)
  (hsub:∀ n o,hget hS n = some o→H n = some o) (R:Read s [] (hget hS) gA x d xas xos) (hok:okAsg (topKey s.ob 0) hS d.asg = true):∀ (ss:List Shape) (r:sumX ss),ss.all Shape.wf = true→(d.frz = [] ∨ ss.all Shape.flat = true) →
  Outs ss r (fun _ as os=>∃ g',Ext (mtOf w g H d) (gK keep (gE s d g)) w g' w'∧Mem (mtOf w g H d) g' (hget os) w'.heap∧SVR g' w'.heap (mkRes as) V) →
  (finish (kept keep d.asg) d.asg ss r).eval base H fp = some (v,H',fp')→Post mt g w base H' v V w'
 | [],r,_,_,hO,_=>hO.elim
 | [so],r,hwf,hfl,hO,hev=>by
  obtain ⟨as,os,L,g',E,M',hv⟩:=hO
  simp only [List.all_cons,List.all_nil,Bool.and_true] at hwf hfl
  exact call_post M hm hf hsub R hok hwf hfl L E M' hv hev
 | so :: t :: ss,r,hwf,hfl,hO,hev=>by
  simp only [List.all_cons,Bool.and_eq_true] at hwf hfl
  cases r with
  | inl y =>
   obtain ⟨as,os,L,g',E,M',hv⟩:=hO
   exact call_post M hm hf hsub R hok hwf.1 (hfl.imp id fun h=>h.1) L E M' hv hev
  | inr y =>
   exact finish_post M hm hf hsub R hok (t :: ss) y (by simp only [List.all_cons,Bool.and_eq_true];exact hwf.2) (hfl.imp id fun h=>by simp only [List.all_cons,Bool.and_eq_true];exact h.2) hO hev
/-! ### a call -/
theorem All2.nth {α β:Type} {R:α→β→Prop}:∀ {l:List α} {m:List β} {i:Nat} {x:α},All2 R l m→l[i]? = some x→∃ y,m[i]? = some y∧R x y
 | [],_,i,x,_,h=>by simp at h
 | a :: l,b :: m,0,x,⟨h1,_⟩,h=>⟨b,rfl,by simp only [List.getElem?_cons_zero,Option.some.injEq] at h;exact h ▸ h1⟩
 | a :: l,b :: m,i + 1,x,⟨_,h2⟩,h=>by simpa using All2.nth h2 (by simpa using h)
 | _ :: _,[],_,_,h,_=>h.elim
theorem args_of {s:Shape} {d:DS} {x:s.X} {xas:List (Nat×AV)} {xos hS:Heap} {args:List AV} {vs:List Value} {m:List Nat} (M:Mem mt g (hget hS) w.heap) (R:Read s m (hget hS) (nthA args) x d xas xos) (hv:All2 (AVR g w.heap) args vs):ArgsR (gE s d g) w.heap xas vs.toArray:=by
 intro i a hia
 obtain ⟨y,hy,h1,h2,h3,h4⟩:=all2_mem R.sl hia
 obtain ⟨u,hu,h5⟩:=hv.nth (nthA_nth _ _ _ h3)
 have:vs.toArray.getD i undef = u:=by simp [Array.getD_eq_getD_getElem?,hu]
 rw [this]
 exact RelA.AVR M h4 h5
theorem callK_does {f:Nat} {S:FnSpec} {args:List AV} {vs:List Value} {hS:Heap} {m:MA SV} {v:SV} {H':HF} {fp fp':FP} (hs:Sound P f S) (M:Mem mt g H w.heap) (hm:∀ b,w.heap.size ≤ b→mt b) (hf:∀ n,base ≤ n→n < base + keys→g.φ n = none)
  (hsub:∀ n o,hget hS n = some o→H n = some o) (hv:All2 (AVR g w.heap) args vs) (hk:S.callK args hS = some m) (hev:m.eval base H fp = some (v,H',fp')) :
  Answers P f vs.toArray w fun V w'=>Post mt g w base H' v V w':=by
 unfold FnSpec.callK at hk
 obtain ⟨x,d,xas,xos,hk,R⟩:=Shape.decK_spec hk
 cases hok:okAsg (topKey S.ins.ob 0) hS d.asg with
 | false=>rw [hok] at hk;cases hk
 | true =>
  rw [hok] at hk
  cases hfr:(noFrz d.frz || S.outs.all Shape.flat) with
  | false=>rw [hfr] at hk;cases hk
  | true =>
   rw [hfr] at hk
   simp only [Option.some.injEq] at hk
   subst hk
   have hfl:d.frz = [] ∨ S.outs.all Shape.flat = true:=by
    rcases Bool.or_eq_true_iff.1 hfr with h | h
    ·refine .inl ?_
     cases hd:d.frz with
     | nil=>rfl
     | cons _ _=>rw [hd] at h;cases h
    ·exact .inr h
   cases hr:S.f x with
   | none=>rw [hr] at hev;cases hev
   | some r =>
    rw [hr] at hev
    have hev:(finish (kept S.keep d.asg) d.asg S.outs r).eval base H fp = some (v,H',fp'):=hev
    have MS:Mem mt g (hget hS) w.heap:=M.sub hsub
    have ME:Mem (mtOf w g H d) (gE S.ins d g) (hget xos) w.heap:=R.mem MS hs.wfi fun j n o Q b h1 h2 h3 h4 h5=>.inr ⟨j,n,o,Q,h1,hsub n o h2,h3,h4,h5⟩
    refine (hs.call x r hr (mtOf w g H d) (gE S.ins d g) w vs.toArray xas xos ?_ ME (fun b hb=>.inl hb) (fun n hn=>?_) (args_of MS R hv)).mono fun V w' hO=>?_
    ·obtain ⟨as,os,L⟩:=Shape.laid S.ins x
     obtain ⟨e1,e2⟩:=L.same R.enc0
     rw [e1,e2]
     exact L
    ·have:aget d.asg n = none:=by
      cases ha:aget d.asg n with
      | none=>rfl
      | some y=>exact absurd (okAsg_spec d.asg hok n y ha).1 (Nat.not_lt.2 hn)
     simp only [gE,this]
    ·exact finish_post M hm hf hsub R hok S.outs r hs.wfo hfl hO hev
theorem tryAll_does {f:Nat} {args:List AV} {vs:List Value} {hS:Heap} {v:SV} {H':HF} {fp fp':FP} (M:Mem mt g H w.heap) (hm:∀ b,w.heap.size ≤ b→mt b) (hf:∀ n,base ≤ n→n < base + keys→g.φ n = none)
  (hsub:∀ n o,hget hS n = some o→H n = some o) (hv:All2 (AVR g w.heap) args vs):∀ (ss:List FnSpec),(∀ S,S ∈ ss→Sound P f S)→(tryAll args hS ss).eval base H fp = some (v,H',fp') →
  Answers P f vs.toArray w fun V w'=>Post mt g w base H' v V w'
 | [],_,h=>by cases h
 | S :: ss,hss,h=>by
  unfold tryAll at h
  split at h
  ·rename_i m hk;exact callK_does (hss S List.mem_cons_self) M hm hf hsub hv hk h
  ·exact tryAll_does M hm hf hsub hv ss (fun S hS=>hss S (List.mem_cons_of_mem _ hS)) h
theorem callM_does {f:Nat} {ss:List FnSpec} {args:List AV} {vs:List Value} {v:SV} {H':HF} {fp fp':FP} (M:Mem mt g H w.heap) (hm:∀ b,w.heap.size ≤ b→mt b) (hf:∀ n,base ≤ n→n < base + keys→g.φ n = none)
  (hv:All2 (AVR g w.heap) args vs) (hss:∀ S,S ∈ ss→Sound P f S) (h:(callM ss args).eval base H fp = some (v,H',fp')):Answers P f vs.toArray w fun V w'=>Post mt g w base H' v V w':=by
 unfold callM at h
 rw [MA.eval_bind] at h
 split at h
 ·rename_i hS H2 fp2 hc
  obtain ⟨rfl,hsub⟩:=collect_eval 64 _ [] base H H2 fp fp2 hS (fun n o h=>by cases h) hc
  exact tryAll_does M hm hf hsub hv ss hss h
 ·cases h
end
end Go.Proofs.YthdgahpomhnidaaGreat.Mx
/- Each operation of the interpreter does what the model's does (own work). -/
namespace Go.Proofs.YthdgahpomhnidaaGreat.Mx
open Go
set_option autoImplicit false
set_option linter.unusedVariables false
set_option linter.unusedSimpArgs false
universe u
variable {P:Program}
def EnvOk (P:Program) (E:Env):Prop:=TIs P E.ti∧EqsOk P E.eqs∧∀ f S,S ∈ fnsOf E.fns f→Sound P f S
section
variable {mt:Nat→Prop} {g:Gh} {H H':HF} {w:World} {base:Nat} {fp fp':FP} {v:SV} {o:Oper} {a:Act} {E:Env} {sl:List SV}
theorem Does.makes {s:Sem Value} (he:execOp a.eval o = (do pure (.value (← s)))) (h:Makes P mt g H' w base v s):Does P o a w (Post mt g w base H' v):=by
 obtain ⟨V,w',h1,h2⟩:=h
 refine Does.value (V:=V) (w':=w') ?_ h2
 rw [he,Sem.run_bind,h1]
 rfl
theorem Does.gives {s:Sem Value} (he:execOp a.eval o = (do pure (.value (← s)))) (M:Mem mt g H w.heap) (h:Gives P g H H' w v s):Does P o a w (Post mt g w base H' v):=Does.makes he (h.makes M)
theorem Does.just {V:Value} (he:execOp a.eval o = pure (.value V)) (M:Mem mt g H w.heap) (h:SVR g w.heap v V):Does P o a w (Post mt g w base H v) :=
 Does.value (V:=V) (w':=w) (by rw [he];rfl) (Post.same M h)
theorem Does.unit {s:Sem Unit} (he:execOp a.eval o = (do s;pure .skip)) (h:∃ w',s.run P w = .ok () w'∧Post mt g w base H' v undef w'):Does P o a w (Post mt g w base H' v):=by
 obtain ⟨w',h1,h2⟩:=h
 refine Does.skip (w':=w') ?_ h2
 rw [he,Sem.run_bind,h1]
 rfl
theorem pure_eval {v0:SV} (h:(MA.pure v0).eval base H fp = some (v,H',fp')):v = v0∧H' = H:=by
 simp only [MA.eval,Option.some.injEq,Prod.mk.injEq] at h
 exact ⟨h.1.symm,h.2.1.symm⟩
theorem parts_R (h:SlR g w.heap sl a):∀ (ps:List (Nat×Operand)),All2 (PartR g w.heap) (pairsOf sl ps) (ps.map fun x=>(x.1,a.eval x.2))
 | []=>trivial
 | p :: ps=>⟨⟨rfl,rd_SVR h p.2⟩,parts_R h ps⟩
theorem rds_R (h:SlR g w.heap sl a):∀ (ps:List Operand),All2 (SVR g w.heap) (ps.map (rd sl)) (ps.map a.eval)
 | []=>trivial
 | p :: ps=>⟨rd_SVR h p,rds_R h ps⟩
theorem argsOf_R {hp:HP}:∀ {l:List SV} {vs:List Value} {as:List AV},All2 (SVR g hp) l vs→argsOf l = some as→All2 (AVR g hp) as vs
 | [],[],as,_,h=>by simp only [argsOf,Option.some.injEq] at h;subst h;trivial
 | .v x :: l,v :: vs,as,⟨h1,h2⟩,h=>by
  simp only [argsOf] at h
  cases hr:argsOf l with
  | none=>rw [hr] at h;cases h
  | some r=>rw [hr] at h;simp only [Option.map_some,Option.some.injEq] at h;subst h;exact ⟨h1,argsOf_R h2 hr⟩
 | .tup _ :: l,v :: vs,as,_,h=>by simp [argsOf] at h
 | [],_ :: _,_,h,_=>h.elim
 | _ :: _,[],_,h,_=>h.elim
theorem keysOf_R {hp:HP}:∀ {l:List SV} {vs:List Value} {ns:List Nat},All2 (SVR g hp) l vs→keysOf l = some ns→All2 (IsPtr g) ns vs
 | [],[],as,_,h=>by simp only [keysOf,Option.some.injEq] at h;subst h;trivial
 | x :: l,v :: vs,as,⟨h1,h2⟩,h=>by
  unfold keysOf at h
  split at h
  ·rename_i e;cases e
  ·rename_i n l' e
   cases e
   cases hr:keysOf l with
   | none=>rw [hr] at h;cases h
   | some r =>
    rw [hr] at h;simp only [Option.map_some,Option.some.injEq] at h;subst h
    refine ⟨?_,keysOf_R h2 hr⟩
    obtain ⟨Q,b,q1,q2,q3⟩:=h1
    exact ⟨Q,b,q1,q2,by rw [q3]⟩
  ·cases h
 | [],_ :: _,_,h,_=>h.elim
 | _ :: _,[],_,h,_=>h.elim
theorem ptrs_R {hp:HP}:∀ {ns:List Nat} {vs:List Value},All2 (IsPtr g) ns vs→All2 (AVR g hp) (ns.map fun n=>AV.c (.ptr n 0)) vs
 | [],[],_=>trivial
 | n :: ns,v :: vs,⟨⟨Q,b,h1,h2,h3⟩,hr⟩=>⟨⟨Q,b,h1,h2,h3⟩,ptrs_R hr⟩
 | [],_ :: _,h=>h.elim
 | _ :: _,[],h=>h.elim
theorem call_does (F:∀ f S,S ∈ fnsOf E.fns f→Sound P f S) (M:Mem mt g H w.heap) (hm:∀ b,w.heap.size ≤ b→mt b) (hf:∀ n,base ≤ n→n < base + keys→g.φ n = none) (hsl:SlR g w.heap sl a) {c:Call} {fo:Operand} (hop:o.op = .call c) (hc:c.callee = .value fo)
  {f:Nat} {js:List Nat} {as:List AV} (hfn:rd sl fo = .v (.c (.fn f js))) (has:argsOf (c.args.toList.map (rd sl)) = some as)
  (h:(callM (fnsOf E.fns f) (as ++ js.map fun n=>.c (.ptr n 0))).eval base H fp = some (v,H',fp')):Does P o a w (Post mt g w base H' v):=by
 have h1:=rd_SVR hsl fo
 rw [hfn] at h1
 obtain ⟨us,hus,hR⟩:=h1
 have h2:=All2.append (argsOf_R (rds_R hsl c.args.toList) has) (ptrs_R (hp:=w.heap) hR)
 have ex:(execOp a.eval o).run P w = (callFunc f (c.args.toList.map a.eval ++ us).toArray).run P w:=by
  unfold execOp
  rw [hop]
  simp only [resolve,hc,hus,Deferred.ofValue,Sem.run_bind,Sem.run_pure,Result.andThen_ok,invoke]
  congr 2
  simp [← List.toArray_appendList] <;> apply Array.ext' <;> simp
 rcases callM_does (f:=f) M hm hf h2 (F f) h with ⟨k1,k2⟩ | ⟨V,w',k1,k2⟩
 ·exact Does.enter (by rw [ex,k1]) k2
 ·exact Does.value (by rw [ex,k1]) k2
theorem opt_R (h:SlR g w.heap sl a) (x:Option Operand):match x.map (rd sl),x.map a.eval with | none,none=>True | some y,some Y=>SVR g w.heap y Y | _,_=>False:=by
 cases x with
 | none=>trivial
 | some x=>exact rd_SVR h x
set_option maxHeartbeats 1000000 in
theorem op_does (ok:EnvOk P E) (M:Mem mt g H w.heap) (hm:∀ b,w.heap.size ≤ b→mt b) (hf:∀ n,base ≤ n→n < base + keys→g.φ n = none) (hsl:SlR g w.heap sl a)
  (h:(opM E sl o.type o.op).eval base H fp = some (v,H',fp')):Does P o a w (Post mt g w base H' v):=by
 obtain ⟨T,EQ,F⟩:=ok
 obtain ⟨dst,op,ty,pos,after,guard⟩:=o
 simp only at h
 cases op with
 | move x=>obtain ⟨rfl,rfl⟩:=pure_eval (base:=base) h;exact Does.just rfl M (rd_SVR hsl x)
 | assign x=>obtain ⟨rfl,rfl⟩:=pure_eval (base:=base) h;exact Does.just rfl M (rd_SVR hsl x)
 | pick c x y =>
  simp only [opM] at h
  split at h
  ·rename_i t hc
   have h1:=rd_SVR hsl c
   rw [hc] at h1
   have h1:a.eval c = .bool t:=h1
   rcases cond_eval (base:=base) h with ⟨rfl,h⟩ | ⟨rfl,h⟩
   ·obtain ⟨rfl,rfl⟩:=pure_eval (base:=base) h
    exact Does.value (V:=a.eval x) (w':=w) (by simp [execOp,h1,asBool]) (Post.same M (rd_SVR hsl x))
   ·obtain ⟨rfl,rfl⟩:=pure_eval (base:=base) h
    exact Does.value (V:=a.eval y) (w':=w) (by simp [execOp,h1,asBool]) (Post.same M (rd_SVR hsl y))
  ·cases h
 | alloc e =>
  simp only [opM] at h
  split at h
  ·rename_i i hi
   have ht:=T e i hi
   obtain ⟨z,hz,hrun⟩:=zero_run ht w
   have hzV:All2 (VR g w.heap) i.zero z.cells.toList:=by rw [hz];exact zero_VR g w.heap i.zero ht.zok
   obtain ⟨V,w',k1,k2⟩:=box_does (P:=P) (t:=e) M hm hf hzV h
   refine Does.makes rfl ⟨V,w',?_,k2⟩
   rw [← k1]
   unfold Instr.alloc
   rw [Sem.run_bind,hrun]
   rfl
  ·cases h
 | box e x =>
  simp only [opM] at h
  split at h
  ·rename_i i A hi hA
   cases hfit:fits (avCs A) i.size with
   | false=>rw [hfit] at h;cases h
   | true =>
    rw [hfit] at h
    have h1:=rd_SVR hsl x
    rw [hA] at h1
    simp only [fits,Bool.and_eq_true] at hfit
    exact Does.makes rfl (box_does (t:=e) M hm hf (avCs_VR h1 hfit.2) h)
  ·cases h
 | build t ps =>
  simp only [opM] at h
  split at h
  ·rename_i i hi
   cases hagg:i.agg with
   | false=>rw [hagg] at h;cases h
   | true =>
    rw [hagg] at h
    simp only at h
    split at h
    ·rename_i cs hcs
     obtain ⟨rfl,rfl⟩:=pure_eval (base:=base) h
     obtain ⟨V,k1,k2⟩:=build_does T (T t i hi) hagg (parts_R hsl ps.toList) hcs
     refine Does.gives (s:=Instr.build t (ps.map fun (i,x)=>(i,a.eval x))) rfl M ⟨V,?_,k2,rfl⟩
     rw [← k1]
     congr 2
     apply Array.ext'
     simp
    ·cases h
  ·cases h
 | buildSlice t n ps =>
  obtain ⟨i,e,j,et,h1,h2,h3,h4,h5,h6⟩:=elem_eval T h
  simp only at h6
  split at h6
  ·rename_i cs hcs
   cases hn:Nat.ble (n * j.size) 16777216 with
   | false=>rw [hn] at h6;cases h6
   | true =>
    rw [hn] at h6
    obtain ⟨V,w',k1,k2⟩:=buildSlice_does h2 h3 h4 h5 M hm hf (parts_R hsl ps.toList) hcs hn h6
    refine Does.makes (s:=Instr.buildSlice t n (ps.map fun (i,x)=>(i,a.eval x))) rfl ⟨V,w',?_,k2⟩
    rw [← k1]
    congr 2
    apply Array.ext'
    simp
  ·cases h6
 | load t x =>
  simp only [opM] at h
  split at h
  ·rename_i i hi
   obtain ⟨V,h1,h2,rfl⟩:=load_does (T t i hi) M (rd_SVR hsl x) h
   exact Does.gives rfl M ⟨V,h1,h2,rfl⟩
  ·cases h
 | store t x y =>
  simp only [opM] at h
  split at h
  ·rename_i i hi
   exact Does.unit rfl (store_does (T t i hi) M (rd_SVR hsl x) (rd_SVR hsl y) h)
  ·cases h
 | nilCheck x =>
  have h:(nilCheckM (rd sl x)).eval base H fp = some (v,H',fp'):=h
  have hs:∀ ad,a.eval x = .pointer (some ad)→execOp a.eval ⟨dst,.nilCheck x,ty,pos,after,guard⟩ = Pure.pure (.value (a.eval x)):=fun ad he=>by unfold execOp;simp only [he]
  obtain ⟨V,h1,h2,rfl⟩:=nilCheck_does (P:=P) (rd_SVR hsl x) hs h
  exact Does.value h1 (Post.same M h2)
 | binOp op t x y z =>
  have h:(binM E.ti E.eqs op t (rd sl x) (rd sl y)).eval base H fp = some (v,H',fp'):=h
  exact Does.gives rfl M (bin_does T EQ (rd_SVR hsl x) (rd_SVR hsl y) x y h)
 | unOp op t x =>
  have h:(unM op (rd sl x)).eval base H fp = some (v,H',fp'):=h
  exact Does.gives rfl M (un_does (rd_SVR hsl x) h)
 | convert s d x =>
  simp only [opM] at h
  split at h
  ·rename_i i j hi hj
   exact Does.gives rfl M (conv_does T (T s i hi) (T d j hj) M (rd_SVR hsl x) h)
  ·cases h
 | makeFunc fn first captured =>
  cases fn with
  | func f =>
   have h:(match first.toList,keysOf (captured.toList.map (rd sl)) with
    | [],some ns=>ret (.fn f ns)
    | _,_=>.fail).eval base H fp = some (v,H',fp'):=h
   split at h
   ·rename_i ns hfi hks
    obtain ⟨rfl,rfl⟩:=ret_eval h
    have e1:first = #[]:=Array.ext' hfi
    subst e1
    refine Does.just (V:=.func (.func f) #[] (captured.map a.eval)) (by simp [execOp,Instr.makeFunc]) M ⟨captured.toList.map a.eval,?_,keysOf_R (rds_R hsl captured.toList) hks⟩
    congr 1
    apply Array.ext'
    simp
   ·cases h
  | _=>cases h
 | makeSlice t l c =>
  obtain ⟨i,e,j,et,h1,h2,h3,h4,h5,h6⟩:=elem_eval T h
  exact Does.makes rfl (make_does h2 h3 h4 h5 M hm hf (rd_SVR hsl l) (rd_SVR hsl c) h6)
 | slice t x lo hi mx =>
  cases mx with
  | some _=>cases h
  | none =>
   simp only [opM] at h
   split at h
   ·rename_i i hi'
    split at h
    ·rename_i e hu
     split at h
     ·rename_i j hj
      exact Does.gives rfl M (slice_does (T t i hi') hu (T e j hj) M (rd_SVR hsl x) (opt_R hsl lo) (opt_R hsl hi) h)
     ·cases h
    ·cases h
   ·cases h
 | fieldAddr s x f =>
  simp only [opM] at h
  split at h
  ·rename_i i hi
   split at h
   ·rename_i fs hu
    split at h
    ·rename_i off t hfld
     split at h
     ·rename_i j hj
      cases hs:Nat.beq j.size 0 with
      | true=>rw [hs] at h;cases h
      | false=>rw [hs] at h;exact Does.gives rfl M (field_does (T s i hi) hu hfld (T t j hj) hs (rd_SVR hsl x) h)
     ·cases h
    ·cases h
   ·cases h
  ·cases h
 | field s x f =>
  simp only [opM] at h
  split at h
  ·rename_i i hi
   split at h
   ·rename_i fs hu
    split at h
    ·rename_i off t hfld
     split at h
     ·rename_i j cs hj hx
      split at h
      ·rename_i l hl
       have h1:=rd_SVR hsl x
       rw [hx] at h1
       exact Does.gives rfl M (fieldv_does (T s i hi) hu hfld (T t j hj) h1 hl h)
      ·cases h
     ·cases h
    ·cases h
   ·cases h
  ·cases h
 | indexAddr t x y =>
  simp only [opM] at h
  split at h
  ·rename_i q hq
   split at h
   ·rename_i e hu
    split at h
    ·rename_i j hj
     exact Does.gives rfl M (idx_does (T t q hq) (T e j hj) (.inl hu) M (rd_SVR hsl x) (rd_SVR hsl y) h)
    ·cases h
   ·rename_i n e hu
    split at h
    ·rename_i j hj
     exact Does.gives rfl M (idx_does (T t q hq) (T e j hj) (.inr ⟨n,hu⟩) M (rd_SVR hsl x) (rd_SVR hsl y) h)
    ·cases h
   ·cases h
  ·cases h
 | index t x y =>
  simp only [opM] at h
  split at h
  ·rename_i q hq
   split at h
   ·rename_i n e hu
    split at h
    ·rename_i j hj
     exact Does.gives rfl M (idxv_does (T t q hq) (T e j hj) (.inr ⟨n,hu⟩) (rd_SVR hsl x) (rd_SVR hsl y) h)
    ·cases h
   ·rename_i hu
    exact Does.gives rfl M (idxv_does (e:=t) (T t q hq) (T t q hq) (.inl hu) (rd_SVR hsl x) (rd_SVR hsl y) h)
   ·cases h
  ·cases h
 | extract t i =>
  have h:(tupM i (rd sl t)).eval base H fp = some (v,H',fp'):=h
  exact Does.gives rfl M (tup_does (rd_SVR hsl t) h)
 | call c =>
  obtain ⟨callee,args,argTypes⟩:=c
  cases callee with
  | value fo =>
   simp only [opM] at h
   split at h
   ·rename_i f js as hfn has
    exact call_does F M hm hf hsl (c:=⟨.value fo,args,argTypes⟩) rfl rfl hfn has h
   ·cases h
  | invoke r n=>cases h
  | builtin b =>
   have hb:execOp a.eval ⟨dst,.call ⟨.builtin b,args,argTypes⟩,ty,pos,after,guard⟩ = builtin b argTypes ty (args.map fun | .const _=>true | _=>false) (args.map a.eval):=rfl
   have hargs:args.map a.eval = (args.toList.map a.eval).toArray:=by apply Array.ext';simp
   cases b with
   | len =>
    simp only [opM] at h
    split at h
    ·rename_i t x ht hx
     split at h
     ·rename_i i hi
      have e1:argTypes = #[t]:=Array.ext' ht
      have e2:args = #[x]:=Array.ext' hx
      subst e1 e2
      have e3:(#[x]:Array Operand).map a.eval = #[a.eval x]:=by simp
      rw [e3] at hb
      exact Does.gives hb M (len_does (T t i hi) M (rd_SVR hsl x) h)
     ·cases h
    ·cases h
   | append =>
    simp only [opM] at h
    split at h
    ·rename_i t t' x y ht hx
     cases htt:Nat.beq t t' with
     | false=>rw [htt] at h;cases h
     | true =>
      rw [htt] at h
      obtain rfl:=beq_eq htt
      have e1:argTypes = #[t,t]:=Array.ext' ht
      have e2:args = #[x,y]:=Array.ext' hx
      subst e1 e2
      have e3:(#[x,y]:Array Operand).map a.eval = #[a.eval x,a.eval y]:=by simp
      rw [e3] at hb
      obtain ⟨i,e,j,et,h1,h2,h3,h4,h5,h6⟩:=elem_eval T h
      exact Does.makes hb (append_does h2 h3 h4 h5 M hm hf (rd_SVR hsl x) (rd_SVR hsl y) h6)
    ·cases h
   | min=>exact Does.gives (hb.trans (by rw [hargs];rfl)) M (min_does (ts:=argTypes) (ty:=ty) (rds_R hsl args.toList) h)
   | max=>exact Does.gives (hb.trans (by rw [hargs];rfl)) M (max_does (ts:=argTypes) (ty:=ty) (rds_R hsl args.toList) h)
   | complex=>exact Does.gives (hb.trans (by rw [hargs];rfl)) M (cpx_does (ts:=argTypes) (ty:=ty) (rds_R hsl args.toList) h)
   | real=>exact Does.gives (hb.trans (by rw [hargs];rfl)) M (real_does (ts:=argTypes) (ty:=ty) (rds_R hsl args.toList) h)
   | imag=>exact Does.gives (hb.trans (by rw [hargs];rfl)) M (imag_does (ts:=argTypes) (ty:=ty) (rds_R hsl args.toList) h)
   | _=>cases h
 | _=>cases h
end
end Go.Proofs.YthdgahpomhnidaaGreat.Mx
/- Regions: operations one after another,in any order that is let (own work). -/
namespace Go.Proofs.YthdgahpomhnidaaGreat.Mx
open Go
set_option autoImplicit false
set_option linter.unusedVariables false
set_option linter.unusedSimpArgs false
universe u
variable {P:Program}
/-! ### forced values,slots -/
theorem CV.force_eq {R:Type u} (c:CV) (K:CV→R):c.force K = K c:=by cases c <;> rfl
theorem forceCs_eq {R:Type u}:∀ (cs:List CV) (K:List CV→R),forceCs cs K = K cs
 | [],K=>rfl
 | c :: cs,K=>by rw [forceCs,CV.force_eq,forceCs_eq cs]
theorem AV.force_eq {R:Type u} (a:AV) (K:AV→R):a.force K = K a:=by
 cases a with
 | c x=>rw [AV.force,CV.force_eq]
 | agg xs=>rw [AV.force,forceCs_eq]
theorem forceAs_eq {R:Type u}:∀ (cs:List AV) (K:List AV→R),forceAs cs K = K cs
 | [],K=>rfl
 | .c x :: cs,K=>by simp only [forceAs,AV.force_eq,forceAs_eq cs]
 | .agg x :: cs,K=>by simp only [forceAs,AV.force_eq,forceAs_eq cs]
theorem SV.force_eq {R:Type u} (a:SV) (K:SV→R):a.force K = K a:=by
 cases a with
 | v x=>rw [SV.force,AV.force_eq]
 | tup xs=>rw [SV.force,forceAs_eq]
theorem setK_eq {R:Type u}:∀ (l:List SV) (n:Nat) (v:SV) (K:List SV→R),setK l n v K = K (l.set n v)
 | [],_,_,_=>rfl
 | _ :: _,0,_,_=>rfl
 | x :: l,n + 1,v,K=>by rw [setK,setK_eq l n v];rfl
theorem getS_set:∀ (l:List SV) (n m:Nat) (v:SV),getS (l.set n v) m = if n = m∧n < l.length then v else getS l m
 | [],n,m,v=>by simp [getS]
 | x :: l,0,0,v=>by simp [getS]
 | x :: l,0,m + 1,v=>by simp [getS]
 | x :: l,n + 1,0,v=>by simp [getS]
 | x :: l,n + 1,m + 1,v=>by
  simp only [List.set_cons_succ,getS,getS_set l n m v,List.length_cons]
  congr 1
  simp only [eq_iff_iff]
  omega
theorem set_same:∀ (l:List SV) (n:Nat),l.set n (getS l n) = l
 | [],_=>rfl
 | x :: l,0=>rfl
 | x :: l,n + 1=>by simp only [List.set_cons_succ,getS,set_same l n]
def putS (l:List SV) (d:Option Nat) (v:SV):List SV :=
 match d with
 | none=>l
 | some n=>l.set n v
theorem putDst_eq {R:Type} (l:List SV) (d:Option Nat) (v:SV) (K:List SV→R):putDst l d v K = K (putS l d v):=by
 cases d with
 | none=>rfl
 | some n=>exact setK_eq l n v K
theorem putS_len (l:List SV) (d:Option Nat) (v:SV):(putS l d v).length = l.length:=by cases d <;> simp [putS]
theorem put_size (a:Act) (d:Option Tmp) (V:Value):(a.put d V).tmps.size = a.tmps.size:=by cases d <;> simp [Act.put]
theorem put_defers' (a:Act) (d:Option Tmp) (V:Value):(a.put d V).defers = a.defers:=by cases d <;> simp [Act.put]
theorem getS_out:∀ (l:List SV) (n:Nat),l.length ≤ n→getS l n = .dead
 | [],_,_=>rfl
 | _ :: _,0,h=>by simp at h
 | _ :: l,n + 1,h=>getS_out l n (by simpa using h)
theorem SlR.put {g:Gh} {hp:HP} {sl:List SV} {a:Act} {v:SV} {V:Value} (h:SlR g hp sl a) (hl:sl.length ≤ a.tmps.size) (hv:SVR g hp v V) (d:Option Tmp):SlR g hp (putS sl d v) (a.put d V):=by
 cases d with
 | none=>exact h
 | some n =>
  intro m
  simp only [putS,getS_set,Act.put]
  by_cases e:n = m∧n < sl.length
  ·obtain ⟨rfl,e2⟩:=e
   have:n < a.tmps.size:=Nat.lt_of_lt_of_le e2 hl
   simp only [e2,and_self,if_true]
   rw [Array.getD_eq_getD_getElem?,Array.getElem?_setIfInBounds_self_of_lt this]
   exact hv
  ·rw [if_neg e]
   by_cases e2:n = m
   ·subst e2
    have h3:¬ n < sl.length:=fun h=>e ⟨rfl,h⟩
    have:getS sl n = .dead:=getS_out sl n (Nat.not_lt.1 h3)
    rw [this]
    trivial
   ·rw [Array.getD_eq_getD_getElem?,Array.getElem?_setIfInBounds_ne e2,← Array.getD_eq_getD_getElem?]
    exact h m
theorem SlR.stab {g g':Gh} {hp hp':HP} {sl:List SV} {a:Act} (h:SlR g hp sl a) (s:Stab g hp g' hp'):SlR g' hp' sl a:=fun t=>SVR.stab s _ _ (h t)
/-! ### one operation,straight -/
def stepE (E:Env) (ops:List Oper) (o:Oper) (base:Nat) (sl:List SV) (H:HF):Option (SV×HF×FP) :=
 match o.guard with
 | none=>(opM E sl o.type o.op).eval base H ⟨[],[]⟩
 | some (j,want)=>match guardSlot ops j with
  | none=>none
  | some t=>match getS sl t with
   | .v (.c (.bool b))=>if b = want then (opM E sl o.type o.op).eval base H ⟨[],[]⟩ else some (.tup [],H,⟨[],[]⟩)
   | .tup []=>some (.tup [],H,⟨[],[]⟩)
   | _=>none
theorem runOp_E {A:Type} {E:Env} {o:Oper} {sl:List SV} {h:Heap} {base:Nat} {K:List SV→Heap→FP→Option A} {r:A} (hr:runOp E o sl h base K = some r) :
  ∃ v h' fp,(opM E sl o.type o.op).eval base (hget h) ⟨[],[]⟩ = some (v,hget h',fp)∧K (putS sl o.dst v) h' fp = some r:=by
 unfold runOp at hr
 obtain ⟨v,h',fp,h1,h2⟩:=MA.run_eval _ _ _ _ _ _ hr
 rw [SV.force_eq,putDst_eq] at h2
 exact ⟨v,h',fp,h1,h2⟩
theorem stepOp_E {A:Type} {E:Env} {ops:List Oper} {o:Oper} {sl:List SV} {h:Heap} {base:Nat} {K:List SV→Heap→FP→Option A} {r:A} (hr:stepOp E ops o sl h base K = some r) :
  ∃ v h' fp,stepE E ops o base sl (hget h) = some (v,hget h',fp)∧K (putS sl o.dst v) h' fp = some r:=by
 unfold stepOp at hr
 unfold stepE
 split at hr
 ·rename_i hg
  simp only [hg]
  exact runOp_E hr
 ·rename_i j want hg
  simp only [hg]
  split at hr
  ·cases hr
  ·rename_i t ht
   simp only [ht]
   split at hr
   ·rename_i b hb
    have same:sl.set t (.v (.c (.bool b))) = sl:=by rw [← hb];exact set_same sl t
    simp only [hb]
    have dead:putDst sl o.dst (.tup []) (fun sl2=>K sl2 h ⟨[],[]⟩) = some r→∃ v h' fp,some (SV.tup [],hget h,(⟨[],[]⟩:FP)) = some (v,hget h',fp)∧K (putS sl o.dst v) h' fp = some r:=fun q=>by
     rw [putDst_eq] at q
     exact ⟨_,h,_,rfl,q⟩
    cases b with
    | false =>
     simp only [setK_eq,same] at hr
     cases want with
     | false=>simp only [if_true];exact runOp_E hr
     | true=>simp only [Bool.false_eq_true,if_false];exact dead hr
    | true =>
     simp only [setK_eq,same] at hr
     cases want with
     | false=>simp only [Bool.true_eq_false,if_false];exact dead hr
     | true=>simp only [if_true];exact runOp_E hr
   ·rename_i hb
    simp only [hb]
    rw [putDst_eq] at hr
    exact ⟨_,h,_,rfl,hr⟩
   ·cases hr
inductive Runs (E:Env) (ops:List Oper) (next:Nat) (F:Nat→FP):List Nat→List SV→HF→List SV→HF→Prop where
 | nil (sl:List SV) (H:HF):Runs E ops next F [] sl H sl H
 | cons {i:Nat} {is:List Nat} {sl sl':List SV} {H H1 H':HF} {o:Oper} {v:SV} (ho:ops[i]? = some o) (hs:stepE E ops o (next + keys * i) sl H = some (v,H1,F i)) (hr:Runs E ops next F is (putS sl o.dst v) H1 sl' H') :
  Runs E ops next F (i :: is) sl H sl' H'
def idx:Nat→Nat→List Nat
 | _,0=>[]
 | i,n + 1=>i :: idx (i + 1) n
theorem Runs.congr {E:Env} {ops:List Oper} {next:Nat} {F G:Nat→FP} {is:List Nat} {sl sl':List SV} {H H':HF} (h:Runs E ops next F is sl H sl' H'):(∀ i,i ∈ is→G i = F i)→Runs E ops next G is sl H sl' H':=by
 induction h with
 | nil sl H=>intro _;exact .nil sl H
 | cons ho hs hr ih=>intro hg;exact .cons ho (by rw [hg _ List.mem_cons_self];exact hs) (ih fun i hi=>hg i (List.mem_cons_of_mem _ hi))
theorem mem_idx:∀ (n i j:Nat),j ∈ idx i n ↔ i ≤ j∧j < i + n
 | 0,i,j=>by simp [idx]
 | n + 1,i,j=>by simp only [idx,List.mem_cons,mem_idx n (i + 1) j];omega
theorem runOps_E {A:Type} {E:Env} {ops:List Oper} {next:Nat}:∀ (os:List Oper) (i:Nat) (sl:List SV) (h:Heap) (fps:List FP) (K:List SV→Heap→List FP→Option A) (r:A),(∀ k o,os[k]? = some o→ops[i + k]? = some o) →
  runOps E ops os sl h (next + keys * i) fps K = some r→∃ (sl':List SV) (h':Heap) (l:List FP),l.length = os.length∧K sl' h' (l.reverse ++ fps) = some r∧Runs E ops next (fun k=>l.getD (k - i) ⟨[],[]⟩) (idx i os.length) sl (hget h) sl' (hget h')
 | [],i,sl,h,fps,K,r,_,hr=>⟨sl,h,[],rfl,hr,.nil _ _⟩
 | o :: os,i,sl,h,fps,K,r,ho,hr=>by
  obtain ⟨v,h1,fp,h2,h3⟩:=stepOp_E (show stepOp E ops o sl h (next + keys * i) (fun sl' h' fp=>runOps E ops os sl' h' (next + keys * i + keys) (fp :: fps) K) = some r from hr)
  rw [show next + keys * i + keys = next + keys * (i + 1) by rw [Nat.mul_add,Nat.mul_one,Nat.add_assoc]] at h3
  obtain ⟨sl',h',l,k1,k2,k3⟩:=runOps_E os (i + 1) _ h1 (fp :: fps) K r (fun k o' hk=>by rw [show i + 1 + k = i + (k + 1) by omega];exact ho (k + 1) o' (by simpa using hk)) h3
  refine ⟨sl',h',fp :: l,by simp [k1],by simpa using k2,?_⟩
  refine .cons (ho 0 o rfl) (v:=v) (H1:=hget h1) (by rw [h2,Nat.sub_self];rfl) (k3.congr fun j hj=>?_)
  have:=(mem_idx _ _ _).1 hj
  rw [show j - i = (j - (i + 1)) + 1 by omega]
  rfl
/-! ### what an operation looks at -/
theorem opM_congr {E:Env} {sl sl':List SV} {ty:Nat} (op:Op) (h:∀ x,x ∈ op.operands.toList→rd sl x = rd sl' x):opM E sl ty op = opM E sl' ty op:=by
 have two:∀ (ps:List (Nat×Operand)),(∀ p,p ∈ ps→rd sl p.2 = rd sl' p.2)→pairsOf sl ps = pairsOf sl' ps:=fun ps hp=>List.map_congr_left fun p hp'=>by rw [hp p hp']
 have all:∀ (ps:List Operand),(∀ p,p ∈ ps→rd sl p = rd sl' p)→ps.map (rd sl) = ps.map (rd sl'):=fun ps hp=>List.map_congr_left hp
 cases op with
 | move x=>simp only [opM,h x (by simp [Op.operands])]
 | assign x=>simp only [opM,h x (by simp [Op.operands])]
 | pick c x y=>simp only [opM,h c (by simp [Op.operands]),h x (by simp [Op.operands]),h y (by simp [Op.operands])]
 | alloc e=>rfl
 | box e x=>simp only [opM,h x (by simp [Op.operands])]
 | build t ps=>simp only [opM,two ps.toList (fun p hp=>h p.2 (by simp only [Op.operands];exact List.mem_map_of_mem hp))]
 | buildSlice t n ps=>simp only [opM,two ps.toList (fun p hp=>h p.2 (by simp only [Op.operands];exact List.mem_map_of_mem hp))]
 | load t x=>simp only [opM,h x (by simp [Op.operands])]
 | store t x y=>simp only [opM,h x (by simp [Op.operands]),h y (by simp [Op.operands])]
 | nilCheck x=>simp only [opM,h x (by simp [Op.operands])]
 | binOp op t x y z=>simp only [opM,h x (by simp [Op.operands]),h y (by simp [Op.operands])]
 | unOp op t x=>simp only [opM,h x (by simp [Op.operands])]
 | convert s d x=>simp only [opM,h x (by simp [Op.operands])]
 | makeFunc fn first captured =>
  cases fn with
  | func f=>simp only [opM,all captured.toList (fun p hp=>h p (by simp only [Op.operands,Array.toList_append,List.mem_append];exact .inr hp))]
  | _=>rfl
 | makeSlice t l c=>simp only [opM,h l (by simp [Op.operands]),h c (by simp [Op.operands])]
 | slice t x lo hi mx =>
  cases mx with
  | some _=>rfl
  | none =>
   have e1:lo.map (rd sl) = lo.map (rd sl'):=by
    cases lo with
    | none=>rfl
    | some y=>simp only [Option.map_some,h y (by simp [Op.operands])]
   have e2:hi.map (rd sl) = hi.map (rd sl'):=by
    cases hi with
    | none=>rfl
    | some y=>simp only [Option.map_some,h y (by simp [Op.operands])]
   simp only [opM,h x (by simp [Op.operands]),e1,e2]
 | fieldAddr s x f=>simp only [opM,h x (by simp [Op.operands])]
 | field s x f=>simp only [opM,h x (by simp [Op.operands])]
 | indexAddr t x i=>simp only [opM,h x (by simp [Op.operands]),h i (by simp [Op.operands])]
 | index t x i=>simp only [opM,h x (by simp [Op.operands]),h i (by simp [Op.operands])]
 | extract t i=>simp only [opM,h t (by simp [Op.operands])]
 | call c =>
  obtain ⟨callee,args,ts⟩:=c
  have e1:args.toList.map (rd sl) = args.toList.map (rd sl'):=all args.toList fun p hp=>h p (by cases callee <;> simp [Op.operands,Call.operands] <;> simp_all)
  cases callee with
  | value f=>simp only [opM,e1,h f (by simp [Op.operands,Call.operands])]
  | invoke r n=>rfl
  | builtin b =>
   have e2:∀ x,x ∈ args.toList→rd sl x = rd sl' x:=fun x hx=>h x (by simp [Op.operands,Call.operands];simpa using hx)
   cases b with
   | len =>
    simp only [opM]
    split
    ·rename_i t x ht hx;rw [e2 x (by rw [hx];simp)]
    ·rfl
   | append =>
    simp only [opM]
    split
    ·rename_i t t' x y ht hx;rw [e2 x (by rw [hx];simp),e2 y (by rw [hx];simp)]
    ·rfl
   | min=>simp only [opM,e1]
   | max=>simp only [opM,e1]
   | complex=>simp only [opM,e1]
   | real=>simp only [opM,e1]
   | imag=>simp only [opM,e1]
   | _=>rfl
 | _=>rfl
theorem stepE_congr {E:Env} {ops:List Oper} {o:Oper} {base:Nat} {sl sl':List SV} {H:HF} (h:∀ t,t ∈ looks ops o→getS sl t = getS sl' t):stepE E ops o base sl H = stepE E ops o base sl' H:=by
 have e:opM E sl o.type o.op = opM E sl' o.type o.op:=opM_congr o.op fun x hx=>by
  cases x with
  | tmp t =>
   refine h t ?_
   unfold looks
   refine List.mem_append_left _ ?_
   exact List.mem_filterMap.2 ⟨.tmp t,hx,rfl⟩
  | _=>rfl
 unfold stepE
 split
 ·rw [e]
 ·rename_i j want hg
  split
  ·rfl
  ·rename_i t ht
   rw [h t (by unfold looks;rw [hg];refine List.mem_append_right _ ?_;simp only [ht];simp),e]
theorem stepE_local {E:Env} {ops:List Oper} {o:Oper} {base:Nat} {sl:List SV} {H H':HF} {v:SV} {fp:FP} (h:stepE E ops o base sl H = some (v,H',fp)) :
  (∀ n,n ∉ fp.writes→H' n = H n)∧∀ H2:HF,(∀ n,n ∈ fp.reads ∨ n ∈ fp.writes→H2 n = H n)→stepE E ops o base sl H2 = some (v,fun n=>if n ∈ fp.writes then H' n else H2 n,fp):=by
 have loc:(opM E sl o.type o.op).eval base H ⟨[],[]⟩ = some (v,H',fp)→(∀ n,n ∉ fp.writes→H' n = H n)∧∀ H2:HF,(∀ n,n ∈ fp.reads ∨ n ∈ fp.writes→H2 n = H n)→(opM E sl o.type o.op).eval base H2 ⟨[],[]⟩ = some (v,fun n=>if n ∈ fp.writes then H' n else H2 n,fp):=fun h=>by
  obtain ⟨R,W,e,h1,h2⟩:=MA.eval_local _ _ _ _ _ _ _ h
  simp only [List.append_nil] at e
  subst e
  refine ⟨h1,fun H2 hH=>?_⟩
  have:=h2 H2 ⟨[],[]⟩ hH
  simpa using this
 unfold stepE at h ⊢
 split at h
 ·exact loc h
 ·split at h
  ·cases h
  ·split at h
   ·split at h
    ·rename_i hw
     simp only [hw,if_true]
     exact loc h
    ·rename_i hw
     simp only [Option.some.injEq,Prod.mk.injEq] at h
     obtain ⟨rfl,rfl,rfl⟩:=h
     refine ⟨fun _ _=>rfl,fun H2 _=>?_⟩
     simp only [hw,if_false,List.not_mem_nil]
   ·simp only [Option.some.injEq,Prod.mk.injEq] at h
    obtain ⟨rfl,rfl,rfl⟩:=h
    refine ⟨fun _ _=>rfl,fun H2 _=>?_⟩
    simp only [if_false,List.not_mem_nil]
   ·cases h
structure Apart (ops:List Oper) (a b:Oper) (p q:FP):Prop where
 ab:∀ d,a.dst = some d→d ∉ looks ops b
 ba:∀ d,b.dst = some d→d ∉ looks ops a
 dd:∀ d,a.dst = some d→b.dst ≠ some d
 wr:∀ n,n ∈ p.writes→n ∉ q.reads∧n ∉ q.writes
 rw:∀ n,n ∈ p.reads→n ∉ q.writes
theorem any_beq {l:List Nat} {x:Nat}:(l.any (Nat.beq x)) = true ↔ x ∈ l:=by
 rw [List.any_eq_true]
 constructor
 ·rintro ⟨y,h1,h2⟩;rw [beq_eq h2];exact h1
 ·exact fun h=>⟨x,h,beq_self x⟩
theorem meets_false {a b:List Nat} (h:meets a b = false):∀ x,x ∈ a→x ∉ b:=fun x hx hb=>by
 unfold meets at h
 have:(a.any fun x=>b.any (Nat.beq x)) = true:=List.any_eq_true.2 ⟨x,hx,any_beq.2 hb⟩
 rw [this] at h;cases h
theorem apart_spec {ops:List Oper} {a b:Oper} {p q:FP} (h:apart ops a b p q = true):Apart ops a b p q:=by
 simp only [apart,Bool.and_eq_true,Bool.not_eq_true'] at h
 obtain ⟨⟨⟨⟨h1,h2⟩,h3⟩,h4⟩,h5⟩:=h
 have di:∀ (x:Option Nat) (l:List Nat),dstIn x l = false→∀ d,x = some d→d ∉ l:=fun x l hx d hd hm=>by
  subst hd
  unfold dstIn at hx
  simp only at hx
  rw [any_beq.2 hm] at hx;cases hx
 refine ⟨di _ _ h1,di _ _ h2,fun d hd hb=>di _ _ h3 d hd (by rw [hb];simp),fun n hn=>?_,meets_false h5⟩
 have:=meets_false h4 n hn
 simp only [List.mem_append,not_or] at this
 exact this
theorem getS_putS {sl:List SV} {d:Option Nat} {v:SV} {t:Nat} (h:d ≠ some t):getS (putS sl d v) t = getS sl t:=by
 cases d with
 | none=>rfl
 | some n =>
  simp only [putS,getS_set]
  rw [if_neg]
  rintro ⟨rfl,_⟩
  exact h rfl
theorem putS_comm {sl:List SV} {d e:Option Nat} {v u:SV} (h:∀ k,d = some k→e ≠ some k):putS (putS sl d v) e u = putS (putS sl e u) d v:=by
 cases d with
 | none=>rfl
 | some k =>
  cases e with
  | none=>rfl
  | some j =>
   have:k ≠ j:=fun q=>h k rfl (by rw [q])
   simp only [putS]
   exact List.set_comm _ _ this
section
variable {E:Env} {ops:List Oper} {next:Nat} {F:Nat→FP}
theorem Runs.swap {i j:Nat} {oi oj:Oper} {is:List Nat} {sl sl':List SV} {H H':HF} (hi:ops[i]? = some oi) (hj:ops[j]? = some oj) (ap:Apart ops oj oi (F j) (F i)) (h:Runs E ops next F (j :: i :: is) sl H sl' H'):Runs E ops next F (i :: j :: is) sl H sl' H':=by
 cases h with
 | cons ho hs hr =>
  rw [hj] at ho;cases ho
  cases hr with
  | cons ho2 hs2 hr2 =>
   rw [hi] at ho2;cases ho2
   rename_i Hj vj Hi vi
   obtain ⟨a1,a2⟩:=stepE_local hs
   obtain ⟨b1,b2⟩:=stepE_local hs2
   have s2:stepE E ops oi (next + keys * i) sl Hj = some (vi,Hi,F i):=by
    rw [← hs2]
    exact stepE_congr fun t ht=>(getS_putS fun e=>ap.ab t e ht).symm
   have s3:=(stepE_local s2).2 H fun n hn=>(a1 n fun hw=>hn.elim (ap.wr n hw).1 (ap.wr n hw).2).symm
   have s4:=a2 (fun n=>if n ∈ (F i).writes then Hi n else H n) fun n hn=>by
    have:n ∉ (F i).writes:=hn.elim (ap.rw n) fun hw=>(ap.wr n hw).2
    simp only [this,if_false]
   have s5:stepE E ops oj (next + keys * j) (putS sl oi.dst vi) (fun n=>if n ∈ (F i).writes then Hi n else H n) = some (vj,Hi,F j):=by
    rw [stepE_congr (sl':=sl) fun t ht=>getS_putS fun e=>ap.ba t e ht]
    rw [s4]
    congr 2
    congr 1
    funext n
    by_cases w1:n ∈ (F j).writes
    ·simp only [w1,if_true]
     exact (b1 n (ap.wr n w1).2).symm
    ·simp only [w1,if_false]
     by_cases w2:n ∈ (F i).writes
     ·simp only [w2,if_true]
     ·simp only [w2,if_false]
      rw [b1 n w2,a1 n w1]
   refine .cons hi s3 (.cons hj s5 ?_)
   rw [putS_comm fun k h1 h2=>ap.dd k h2 h1]
   exact hr2
theorem Runs.move {i:Nat} {oi:Oper} {q:List Nat} (hi:ops[i]? = some oi):∀ (p:List Nat) (sl sl':List SV) (H H':HF),(∀ j,j ∈ p→∃ oj,ops[j]? = some oj∧Apart ops oj oi (F j) (F i)) →
  Runs E ops next F (p ++ i :: q) sl H sl' H'→Runs E ops next F (i :: (p ++ q)) sl H sl' H'
 | [],sl,sl',H,H',_,h=>h
 | j :: p,sl,sl',H,H',hp,h=>by
  obtain ⟨oj,h1,h2⟩:=hp j List.mem_cons_self
  cases h with
  | cons ho hs hr=>exact (Runs.swap hi h1 h2 (.cons ho hs (Runs.move hi p _ _ _ _ (fun k hk=>hp k (List.mem_cons_of_mem _ hk)) hr)))
end
end Go.Proofs.YthdgahpomhnidaaGreat.Mx
/- Regions: what the model does in any order (own work). -/
namespace Go.Proofs.YthdgahpomhnidaaGreat.Mx
open Go
set_option autoImplicit false
set_option linter.unusedVariables false
set_option linter.unusedSimpArgs false
universe u
variable {P:Program}
theorem yields_of {ops:Array Oper} {g:Gh} {hp:HP} {sl:List SV} {a:Act} {j t:Nat} {b:Bool} (hsl:SlR g hp sl a) (ht:guardSlot ops.toList j = some t) (hb:getS sl t = .v (.c (.bool b))):yielded ops a.tmps j = some b:=by
 have h1:=hsl t
 rw [hb] at h1
 have h1:a.tmps.getD t undef = .bool b:=h1
 have h2:a.tmps[t]? = some (.bool b):=by
  rw [Array.getD_eq_getD_getElem?] at h1
  cases hq:a.tmps[t]? with
  | none=>rw [hq] at h1;simp [undef] at h1
  | some x=>rw [hq] at h1;simp only [Option.getD_some] at h1;rw [h1]
 unfold guardSlot at ht
 unfold yielded
 cases ho:ops[j]? with
 | none=>simp [ho] at ht
 | some o =>
  simp only [Array.getElem?_toList,ho] at ht
  simp only [Option.bind_some,ht,h2]
theorem yields_none {ops:Array Oper} {g:Gh} {hp:HP} {sl:List SV} {a:Act} {j t:Nat} (hsl:SlR g hp sl a) (ht:guardSlot ops.toList j = some t) (hb:getS sl t = .tup []):yielded ops a.tmps j = none:=by
 have h1:=hsl t
 rw [hb] at h1
 obtain ⟨vs,h1,h0⟩:=h1
 have h2:a.tmps[t]? = none ∨ a.tmps[t]? = some (.tuple vs.toArray):=by
  rw [Array.getD_eq_getD_getElem?] at h1
  cases hq:a.tmps[t]? with
  | none=>exact .inl rfl
  | some x=>rw [hq] at h1;simp only [Option.getD_some] at h1;exact .inr (by rw [h1])
 unfold guardSlot at ht
 unfold yielded
 cases ho:ops[j]? with
 | none=>rfl
 | some o =>
  simp only [Array.getElem?_toList,ho] at ht
  rcases h2 with h2 | h2 <;> simp only [Option.bind_some,ht,h2]
section
variable {mt:Nat→Prop} {g:Gh} {H H':HF} {w:World} {base:Nat} {fp:FP} {v:SV} {o:Oper} {a:Act} {E:Env} {sl:List SV} {ops:Array Oper} {i:Nat} {K:Act→World→Prop} {Q:Exit→Act→World→Prop}
theorem step_wp (ok:EnvOk P E) (M:Mem mt g H w.heap) (hm:∀ b,w.heap.size ≤ b→mt b) (hsl:SlR g w.heap sl a) (hlen:sl.length ≤ a.tmps.size) (hf:∀ n,base ≤ n→n < base + keys→g.φ n = none) (ho:ops[i]? = some o)
  (hs:stepE E ops.toList o base sl H = some (v,H',fp))
  (hK:∀ V w' g',Ext mt g w g' w'→(∀ n,¬ (base ≤ n∧n < base + keys)→g'.φ n = g.φ n)→Mem mt g' H' w'.heap→SlR g' w'.heap (putS sl o.dst v) (a.put o.dst V)→K (a.put o.dst V) w'):wpOp P ops Q i K a w:=by
 have run:(opM E sl o.type o.op).eval base H ⟨[],[]⟩ = some (v,H',fp)→o.wp P a w K Q:=fun h =>
  op_does ok M hm hf hsl h K Q fun V w' ⟨g',e,hφ,M',hv⟩=>hK V w' g' e hφ M' (SlR.put (hsl.stab (e.stab M.ro)) hlen hv o.dst)
 unfold wpOp
 rw [ho]
 simp only
 unfold stepE at hs
 split at hs
 ·rename_i hg
  rw [if_pos (by simp [Region.wanted,hg])]
  exact .inl (run hs)
 ·rename_i j want hg
  split at hs
  ·cases hs
  ·rename_i t ht
   split at hs
   ·rename_i b hb
    have hy:=yields_of hsl ht hb
    split at hs
    ·rename_i hw
     rw [if_pos (by simp [Region.wanted,hg,hy,hw])]
     exact .inl (run hs)
    ·rename_i hw
     simp only [Option.some.injEq,Prod.mk.injEq] at hs
     obtain ⟨rfl,rfl,rfl⟩:=hs
     rw [if_neg (by simp [Region.wanted,hg,hy,hw])]
     exact hK undef w g (Ext.refl _ _ _) (fun _ _=>rfl) M (SlR.put (v:=.tup []) (V:=undef) hsl hlen ⟨[],rfl,trivial⟩ o.dst)
   ·rename_i hb
    simp only [Option.some.injEq,Prod.mk.injEq] at hs
    obtain ⟨rfl,rfl,rfl⟩:=hs
    rw [if_neg (by simp [Region.wanted,hg,yields_none hsl ht hb])]
    exact hK undef w g (Ext.refl _ _ _) (fun _ _=>rfl) M (SlR.put (v:=.tup []) (V:=undef) hsl hlen ⟨[],rfl,trivial⟩ o.dst)
   ·cases hs
end
structure After (mt:Nat→Prop) (g0:Gh) (w0:World) (H:HF) (sl:List SV) (nx:Nat) (ds:List Deferred) (N:Nat) (a:Act) (w:World) (g:Gh):Prop where
 ext:Ext mt g0 w0 g w
 mem:Mem mt g H w.heap
 slr:SlR g w.heap sl a
 len:sl.length ≤ a.tmps.size
 nx:∀ n,nx ≤ n→g.φ n = none
 dfs:(a.defers = ds∧a.tmps.size = N)
section
variable {mt:Nat→Prop} {g0:Gh} {w0:World} {E:Env} {ops:Array Oper} {next:Nat} {F:Nat→FP} {Q:Exit→Act→World→Prop} {ds:List Deferred} {N:Nat}
theorem grown {g:Gh} {w:World} (hm0:∀ b,w0.heap.size ≤ b→mt b) (e:Ext mt g0 w0 g w):∀ b,w.heap.size ≤ b→mt b:=fun b hb=>hm0 b (Nat.le_trans e.size hb)
theorem keys_apart {i j n:Nat} (h1:next + keys * i ≤ n) (h2:n < next + keys * i + keys) (hne:i ≠ j):¬ (next + keys * j ≤ n∧n < next + keys * j + keys):=by
 simp only [keys] at *
 omega
theorem run_step (ok:EnvOk P E) (hm0:∀ b,w0.heap.size ≤ b→mt b) {i:Nat} {is:List Nat} {sl sl':List SV} {H H':HF} {a:Act} {w:World} {g:Gh} {K:Act→World→Prop}
  (hr:Runs E ops.toList next F (i :: is) sl H sl' H') (ext:Ext mt g0 w0 g w) (M:Mem mt g H w.heap) (hsl:SlR g w.heap sl a) (hlen:sl.length ≤ a.tmps.size) (hd:(a.defers = ds∧a.tmps.size = N))
  (hf:∀ k,k ∈ i :: is→∀ n,next + keys * k ≤ n→n < next + keys * k + keys→g.φ n = none) (hn:∀ n,next + keys * ops.size ≤ n→g.φ n = none) (hi:i < ops.size) (hni:i ∉ is)
  (hK:∀ a w g sl H,Runs E ops.toList next F is sl H sl' H'→Ext mt g0 w0 g w→Mem mt g H w.heap→SlR g w.heap sl a→sl.length ≤ a.tmps.size→(a.defers = ds∧a.tmps.size = N) →
   (∀ k,k ∈ is→∀ n,next + keys * k ≤ n→n < next + keys * k + keys→g.φ n = none)→(∀ n,next + keys * ops.size ≤ n→g.φ n = none)→K a w):wpOp P ops Q i K a w:=by
 cases hr with
 | cons ho hs hr =>
  rw [Array.getElem?_toList] at ho
  refine step_wp ok M (grown hm0 ext) hsl hlen (hf i List.mem_cons_self) ho hs fun V w' g' e hφ M' hsl'=>?_
  refine hK _ w' g' _ _ hr (ext.trans e) M' hsl' (by rw [putS_len,put_size];exact hlen) (by rw [put_defers',put_size];exact hd) (fun k hk n h1 h2=>?_) (fun n h1=>?_)
  ·rw [hφ n (keys_apart h1 h2 fun e'=>hni (e' ▸ hk))]
   exact hf k (List.mem_cons_of_mem _ hk) n h1 h2
  ·rw [hφ n]
   ·exact hn n h1
   ·simp only [keys] at *
    omega
theorem wpOps_runs (ok:EnvOk P E) (hm0:∀ b,w0.heap.size ≤ b→mt b) {sl':List SV} {H':HF} (hQ:∀ a w g,After mt g0 w0 H' sl' (next + keys * ops.size) ds N a w g→Q .normal a w):∀ (is:List Nat) (a:Act) (w:World) (g:Gh) (sl:List SV) (H:HF),is.Nodup→(∀ i,i ∈ is→i < ops.size) →
  Runs E ops.toList next F is sl H sl' H'→Ext mt g0 w0 g w→Mem mt g H w.heap→SlR g w.heap sl a→sl.length ≤ a.tmps.size→(a.defers = ds∧a.tmps.size = N)→(∀ k,k ∈ is→∀ n,next + keys * k ≤ n→n < next + keys * k + keys→g.φ n = none)→(∀ n,next + keys * ops.size ≤ n→g.φ n = none) →
  wpOps P ops Q is a w
 | [],a,w,g,sl,H,_,_,hr,ext,M,hsl,hlen,hd,hf,hn=>by
  cases hr
  exact hQ a w g ⟨ext,M,hsl,hlen,hn,hd⟩
 | i :: is,a,w,g,sl,H,hnd,hlt,hr,ext,M,hsl,hlen,hd,hf,hn=>by
  rw [wpOps_cons]
  rw [List.nodup_cons] at hnd
  exact run_step ok hm0 hr ext M hsl hlen hd hf hn (hlt i List.mem_cons_self) hnd.1 fun a w g sl H hr ext M hsl hlen hd hf hn =>
   wpOps_runs ok hm0 hQ is a w g sl H hnd.2 (fun k hk=>hlt k (List.mem_cons_of_mem _ hk)) hr ext M hsl hlen hd hf hn
/-! ### the unlisted -/
theorem filter_split (p:Nat→Bool):∀ (n a i:Nat),i ∈ (idx a n).filter p→∃ pre post,(idx a n).filter p = pre ++ i :: post∧(∀ k,k ∈ pre→k < i∧a ≤ k∧k < a + n∧p k = true)∧(∀ k,k ∈ post→i < k)∧(idx a n).filter (fun k=>p k && !(decide (k = i))) = pre ++ post
 | 0,a,i,h=>by simp [idx] at h
 | n + 1,a,i,h=>by
  have big:∀ (q:Nat→Bool) k,k ∈ (idx (a + 1) n).filter q→a < k:=fun q k hk=>by
   have:=(mem_idx _ _ _).1 (List.mem_filter.1 hk).1;omega
  by_cases hp:p a = true
  ·by_cases e:i = a
   ·subst e
    refine ⟨[],(idx (i + 1) n).filter p,by simp [idx,hp],fun k hk=>(by cases hk),fun k hk=>big _ k hk,?_⟩
    simp only [idx,List.filter_cons,decide_true,Bool.not_true,Bool.and_false,Bool.false_eq_true,if_false,List.nil_append]
    refine List.filter_congr fun k hk=>?_
    have:=(mem_idx _ _ _).1 hk
    have hki:k ≠ i:=by omega
    simp [hki]
   ·have h2:i ∈ (idx (a + 1) n).filter p:=by
     simp only [idx,List.filter_cons,hp,if_true,List.mem_cons] at h
     exact h.resolve_left e
    obtain ⟨pre,post,h3,h4,h5,h6⟩:=filter_split p n (a + 1) i h2
    refine ⟨a :: pre,post,by simp [idx,hp,h3],fun k hk=>?_,h5,?_⟩
    ·rcases List.mem_cons.1 hk with rfl | hk
     ·exact ⟨by have:=big _ i h2;omega,Nat.le_refl _,by omega,hp⟩
     ·have:=h4 k hk;exact ⟨this.1,by omega,by omega,this.2.2.2⟩
    ·have hae:a ≠ i:=Ne.symm e
     simp [idx,hp,hae,h6]
  ·have h2:i ∈ (idx (a + 1) n).filter p:=by
    simp only [idx,List.filter_cons,hp,if_false,Bool.false_eq_true] at h
    exact h
   obtain ⟨pre,post,h3,h4,h5,h6⟩:=filter_split p n (a + 1) i h2
   refine ⟨pre,post,by simp [idx,hp,h3],fun k hk=>?_,h5,by simp [idx,hp,h6]⟩
   have:=h4 k hk;exact ⟨this.1,by omega,by omega,this.2.2.2⟩
def unl (ops:Array Oper) (listed:Array Bool):List Nat:=(idx 0 ops.size).filter fun k=>!listed.getD k true
theorem mem_unl {listed:Array Bool} {k:Nat}:k ∈ unl ops listed ↔ k < ops.size∧listed.getD k true = false:=by
 unfold unl
 rw [List.mem_filter,mem_idx]
 simp
theorem getD_tf {listed:Array Bool} {k:Nat} (h:k < listed.size):listed.getD k false = listed.getD k true:=by
 simp [Array.getD,h]
theorem wpAny_runs (ok:EnvOk P E) (hm0:∀ b,w0.heap.size ≤ b→mt b) {sl':List SV} {H':HF} {pre:Nat→Nat→Prop} (hQ:∀ a w g,After mt g0 w0 H' sl' (next + keys * ops.size) ds N a w g→Q .normal a w)
  (hedge:∀ i o,ops[i]? = some o→∀ e,e ∈ o.after→Region.binds .any e = true→e.on < i)
  (hpre:∀ i o,ops[i]? = some o→∀ j,pre i j→∃ e,e ∈ o.after∧Region.binds .any e = true∧(j = e.on ∨ pre e.on j))
  (hap:∀ i j oi oj,ops[i]? = some oi→ops[j]? = some oj→j < i→pre i j ∨ Apart ops.toList oj oi (F j) (F i)) :
  ∀ (fuel:Nat) (listed:Array Bool) (a:Act) (w:World) (g:Gh) (sl:List SV) (H:HF),listed.size = ops.size→(unl ops listed).length ≤ fuel→(∀ k,k < ops.size→listed.getD k true = true→∀ j,pre k j→listed.getD j false = true) →
  Runs E ops.toList next F (unl ops listed) sl H sl' H'→Ext mt g0 w0 g w→Mem mt g H w.heap→SlR g w.heap sl a→sl.length ≤ a.tmps.size→(a.defers = ds∧a.tmps.size = N)→(∀ k,k ∈ unl ops listed→∀ n,next + keys * k ≤ n→n < next + keys * k + keys→g.φ n = none)→(∀ n,next + keys * ops.size ≤ n→g.φ n = none) →
  wpAny P .any ops Q fuel listed a w:=by
 intro fuel
 have ready_unl:∀ (listed:Array Bool) i,listed.size = ops.size→i ∈ Region.ready .any ops listed→i ∈ unl ops listed:=fun listed i hsz hi=>by
  obtain ⟨h1,o,h2,_⟩:=mem_ready.1 hi
  exact mem_unl.2 ⟨(Array.getElem?_eq_some_iff.1 h2).1,h1⟩
 have done:∀ (listed:Array Bool) a w g sl H,listed.size = ops.size→unl ops listed = []→Runs E ops.toList next F (unl ops listed) sl H sl' H'→Ext mt g0 w0 g w→Mem mt g H w.heap→SlR g w.heap sl a→sl.length ≤ a.tmps.size→(a.defers = ds∧a.tmps.size = N)→(∀ n,next + keys * ops.size ≤ n→g.φ n = none) →
   Region.ready .any ops listed = []∧Q .normal a w:=fun listed a w g sl H hsz hu hr ext M hsl hlen hd hn=>by
  rw [hu] at hr
  cases hr
  refine ⟨?_,hQ a w g ⟨ext,M,hsl,hlen,hn,hd⟩⟩
  cases hrd:Region.ready .any ops listed with
  | nil=>rfl
  | cons x xs =>
   have:=ready_unl listed x hsz (by rw [hrd];exact List.mem_cons_self)
   rw [hu] at this;cases this
 induction fuel with
 | zero =>
  intro listed a w g sl H hsz hfu hcl hr ext M hsl hlen hd hf hn
  exact done listed a w g sl H hsz (List.length_eq_zero_iff.1 (Nat.le_zero.1 hfu)) hr ext M hsl hlen hd hn
 | succ fuel ih =>
  intro listed a w g sl H hsz hfu hcl hr ext M hsl hlen hd hf hn
  refine ⟨fun hrd=>?_,fun i hi=>?_⟩
  ·cases hu:unl ops listed with
   | nil=>exact (done listed a w g sl H hsz hu hr ext M hsl hlen hd hn).2
   | cons i rest =>
    exfalso
    have himem:i ∈ unl ops listed:=by rw [hu];exact List.mem_cons_self
    obtain ⟨hlt,hli⟩:=mem_unl.1 himem
    obtain ⟨p,q,h1,h2,h3,h4⟩:=filter_split _ _ _ _ himem
    have hmin:∀ k,k < i→listed.getD k true = true:=fun k hk=>by
     cases hb:listed.getD k true with
     | true=>rfl
     | false =>
      have hkm:k ∈ unl ops listed:=mem_unl.2 ⟨by omega,hb⟩
      obtain ⟨p',q',h1',h2',h3',h4'⟩:=filter_split _ _ _ _ hkm
      have e:unl ops listed = p' ++ k :: q':=h1'
      rw [hu] at e
      cases p' with
      | nil=>simp only [List.nil_append,List.cons.injEq] at e;omega
      | cons x xs =>
       simp only [List.cons_append,List.cons.injEq] at e
       have:=(h2' x List.mem_cons_self).1
       omega
    have:i ∈ Region.ready .any ops listed:=by
     refine mem_ready.2 ⟨hli,ops[i],Array.getElem?_eq_getElem hlt,fun e he hb=>?_⟩
     have hlt2:=hedge i _ (Array.getElem?_eq_getElem hlt) e he hb
     rw [getD_tf (by rw [hsz];omega)]
     exact hmin _ hlt2
    rw [hrd] at this
    cases this
  ·have himem:=ready_unl listed i hsz hi
   obtain ⟨hlt,hli⟩:=mem_unl.1 himem
   obtain ⟨_,oi,hoi,hall⟩:=mem_ready.1 hi
   obtain ⟨p,q,h1,h2,h3,h4⟩:=filter_split _ _ _ _ himem
   have hsz':(listed.setIfInBounds i true).size = ops.size:=by simp [hsz]
   have hset:∀ k,(listed.setIfInBounds i true).getD k true = if k = i then true else listed.getD k true:=fun k=>by
    by_cases e:k = i
    ·subst e
     rw [if_pos rfl]
     have:k < (listed.setIfInBounds k true).size:=by rw [hsz'];exact hlt
     simp [Array.getD,hsz,hlt]
    ·rw [if_neg e,getD_set_ne true (Ne.symm e)]
   have hu:unl ops listed = p ++ i :: q:=h1
   have hu':unl ops (listed.setIfInBounds i true) = p ++ q:=by
    rw [← h4]
    unfold unl
    refine List.filter_congr fun k hk=>?_
    rw [hset k]
    by_cases e:k = i <;> simp [e]
   have closed_i:∀ j,pre i j→listed.getD j false = true:=fun j hj=>by
    obtain ⟨e,he,hb,h⟩:=hpre i oi hoi j hj
    have h5:=hall e he hb
    rcases h with rfl | h
    ·exact h5
    ·have h6:=hedge i oi hoi e he hb
     exact hcl e.on (by omega) (by rw [← getD_tf (by rw [hsz];omega)];exact h5) j h
   have hr2:Runs E ops.toList next F (i :: (p ++ q)) sl H sl' H':=by
    rw [hu] at hr
    refine Runs.move (by rw [Array.getElem?_toList];exact hoi) p sl sl' H H' (fun j hj=>?_) hr
    obtain ⟨k1,k2,k3,k4⟩:=h2 j hj
    have hjlt:j < ops.size:=by omega
    refine ⟨ops[j],by rw [Array.getElem?_toList];exact Array.getElem?_eq_getElem hjlt,(hap i j oi ops[j] hoi (Array.getElem?_eq_getElem hjlt) k1).resolve_left fun hp=>?_⟩
    have:=closed_i j hp
    rw [getD_tf (by rw [hsz];omega)] at this
    simp [this] at k4
   have hni:i ∉ p ++ q:=fun h=>by
    rcases List.mem_append.1 h with h | h
    ·have:=(h2 i h).1;omega
    ·have:=h3 i h;omega
   refine run_step ok hm0 hr2 ext M hsl hlen hd (fun k hk n a1 a2=>hf k ?_ n a1 a2) hn hlt hni fun a w g sl H hr ext M hsl hlen hd hf hn=>?_
   ·rw [hu]
    rcases List.mem_cons.1 hk with rfl | hk
    ·simp
    ·rcases List.mem_append.1 hk with hk | hk <;> simp [hk]
   ·refine ih _ a w g sl H hsz' ?_ (fun k hk hl j hj=>?_) (by rw [hu'];exact hr) ext M hsl hlen hd (by rw [hu'];exact hf) hn
    ·rw [hu'] ;rw [hu] at hfu;simp only [List.length_append,List.length_cons] at hfu ⊢;omega
    ·rw [hset k] at hl
     by_cases e:k = i
     ·subst e;exact getD_set_true (closed_i j hj)
     ·rw [if_neg e] at hl;exact getD_set_true (hcl k hk hl j hj)
end
/-! ### the check -/
theorem apartAll_spec {ops:List Oper} {pre:List Nat} {i:Nat} {o:Oper} {fp:FP}:∀ (bs:List Oper) (qs:List FP) (j:Nat),apartAll ops pre i o fp j bs qs = true→∀ k b q,bs[k]? = some b→qs[k]? = some q→Nat.testBit (pre.getD i 0) (j + k) = true ∨ Apart ops b o q fp
 | [],qs,j,h,k,b,q,hb,hq=>by simp at hb
 | b :: bs,[],j,h,k,b',q,hb,hq=>by cases h
 | b :: bs,q :: qs,j,h,0,b',q',hb,hq=>by
  simp only [apartAll,Bool.and_eq_true,Bool.or_eq_true] at h
  simp only [List.getElem?_cons_zero,Option.some.injEq] at hb hq
  subst hb hq
  exact h.1.imp id apart_spec
 | b :: bs,q :: qs,j,h,k + 1,b',q',hb,hq=>by
  simp only [apartAll,Bool.and_eq_true,Bool.or_eq_true] at h
  have:=apartAll_spec bs qs (j + 1) h.2 k b' q' (by simpa using hb) (by simpa using hq)
  rw [show j + (k + 1) = j + 1 + k by omega]
  exact this
theorem allApart_spec {ops:List Oper} {pre:List Nat} {fps:List FP}:∀ (os:List Oper) (ps:List FP) (i:Nat),allApart ops pre fps i os ps = true→∀ k o p,os[k]? = some o→ps[k]? = some p →
  (∀ e,e ∈ o.after→Region.binds .any e = true→e.on < i + k)∧∀ j b q,j < i + k→ops[j]? = some b→fps[j]? = some q→Nat.testBit (pre.getD (i + k) 0) j = true ∨ Apart ops b o q p
 | [],ps,i,h,k,o,p,ho,hp=>by simp at ho
 | o :: os,[],i,h,k,o',p,ho,hp=>by cases h
 | o :: os,p :: ps,i,h,0,o',p',ho,hp=>by
  simp only [allApart,Bool.and_eq_true] at h
  simp only [List.getElem?_cons_zero,Option.some.injEq] at ho hp
  subst ho hp
  refine ⟨fun e he hb=>?_,fun j b q hj hb hq=>?_⟩
  ·have:=List.all_eq_true.1 h.1 e (by simpa using he)
   rw [hb] at this
   exact blt_lt this
  ·have:=apartAll_spec _ _ 0 h.2.1 j b q (by rw [List.getElem?_take];simp only [Nat.add_zero] at hj;rw [if_pos hj];exact hb) hq
   simpa using this
 | o :: os,p :: ps,i,h,k + 1,o',p',ho,hp=>by
  simp only [allApart,Bool.and_eq_true] at h
  have:=allApart_spec os ps (i + 1) h.2.2 k o' p' (by simpa using ho) (by simpa using hp)
  rw [show i + (k + 1) = i + 1 + k by omega]
  exact this
theorem maskOf_spec {pre:List Nat} {j:Nat}:∀ (es:List Edge),Nat.testBit (maskOf pre es) j = true→∃ e,e ∈ es∧Region.binds .any e = true∧(j = e.on ∨ Nat.testBit (pre.getD e.on 0) j = true)
 | [],h=>by simp [maskOf] at h
 | e :: es,h=>by
  unfold maskOf at h
  cases hb:Region.binds .any e with
  | false =>
   rw [hb] at h
   obtain ⟨e',h1,h2⟩:=maskOf_spec es h
   exact ⟨e',List.mem_cons_of_mem _ h1,h2⟩
  | true =>
   rw [hb] at h
   have h:Nat.testBit ((1 <<< e.on ||| pre.getD e.on 0) ||| maskOf pre es) j = true:=h
   rw [Nat.testBit_or,Nat.testBit_or,Nat.testBit_shiftLeft,Bool.or_eq_true,Bool.or_eq_true] at h
   rcases h with (h | h) | h
   ·simp only [Bool.and_eq_true,decide_eq_true_eq] at h
    refine ⟨e,List.mem_cons_self,hb,.inl ?_⟩
    have:=h.2
    have hz:j - e.on = 0:=by
     rcases Nat.eq_zero_or_pos (j - e.on) with q | q
     ·exact q
     ·obtain ⟨m,hm⟩:=Nat.exists_eq_add_of_lt q
      rw [show j - e.on = m + 1 by omega,Nat.testBit_succ] at this
      simp at this
    have:e.on ≤ j:=h.1
    omega
   ·exact ⟨e,List.mem_cons_self,hb,.inr h⟩
   ·obtain ⟨e',h1,h2⟩:=maskOf_spec es h
    exact ⟨e',List.mem_cons_of_mem _ h1,h2⟩
theorem preds_spec:∀ (os:List Oper) (acc:List Nat),(∀ i,i < acc.length→(os.foldl addPreds acc).getD i 0 = acc.getD i 0) ∧
  ∀ k o,os[k]? = some o→∀ j,Nat.testBit ((os.foldl addPreds acc).getD (acc.length + k) 0) j = true→∃ e,e ∈ o.after∧Region.binds .any e = true∧(j = e.on ∨ Nat.testBit ((os.foldl addPreds acc).getD e.on 0) j = true)
 | [],acc=>⟨fun _ _=>rfl,fun k o h=>by simp at h⟩
 | o :: os,acc=>by
  obtain ⟨h1,h2⟩:=preds_spec os (addPreds acc o)
  have hl:(addPreds acc o).length = acc.length + 1:=by simp [addPreds]
  have old:∀ i,i < acc.length→(addPreds acc o).getD i 0 = acc.getD i 0:=fun i hi=>by
   simp only [addPreds,List.getD_eq_getElem?_getD,List.getElem?_append_left hi]
  refine ⟨fun i hi=>?_,fun k o' ho j hj=>?_⟩
  ·rw [List.foldl_cons,h1 i (by omega),old i hi]
  ·cases k with
   | zero =>
    simp only [List.getElem?_cons_zero,Option.some.injEq] at ho
    subst ho
    rw [List.foldl_cons,Nat.add_zero,h1 _ (by omega)] at hj
    simp only [addPreds,List.getD_eq_getElem?_getD,List.getElem?_append_right (Nat.le_refl _),Nat.sub_self,List.getElem?_cons_zero,Option.getD_some] at hj
    obtain ⟨e,he,hb,hj⟩:=maskOf_spec _ hj
    refine ⟨e,by simpa using he,hb,hj.imp id fun hj=>?_⟩
    have hlt:e.on < acc.length:=by
     rcases Nat.lt_or_ge e.on acc.length with q | q
     ·exact q
     ·rw [List.getD_eq_getElem?_getD,List.getElem?_eq_none q] at hj;simp at hj
    rw [List.foldl_cons,h1 _ (by omega),old _ hlt]
    exact hj
   | succ k =>
    have:=h2 k o' (by simpa using ho) j (by rw [hl,show acc.length + 1 + k = acc.length + (k + 1) by omega];exact hj)
    exact this
end Go.Proofs.YthdgahpomhnidaaGreat.Mx
/- The interpreter's run tells what the code does (own work). -/
namespace Go.Proofs.YthdgahpomhnidaaGreat.Mx
open Go
set_option autoImplicit false
set_option linter.unusedVariables false
set_option linter.unusedSimpArgs false
universe u
variable {P:Program}
def exitOf:Ex→Exit
 | .norm=>.normal
 | .exit i=>.exit i
 | .goto i=>.goto i
 | .ret=>.ret
def Inv (mt:Nat→Prop) (g0:Gh) (w0:World) (ds:List Deferred) (N:Nat) (s:St) (a:Act) (w:World):Prop:=∃ g,After mt g0 w0 (hget s.heap) s.slots s.next ds N a w g
/-! ### slots laid -/
def layS:List (Nat×AV)→List SV→List SV
 | [],sl=>sl
 | (i,a) :: r,sl=>layS r (sl.set i (.v a))
theorem laySl_eq {R:Type}:∀ (as:List (Nat×AV)) (sl:List SV) (K:List SV→R),laySl as sl K = K (layS as sl)
 | [],sl,K=>rfl
 | (i,a) :: r,sl,K=>by rw [laySl,setK_eq,laySl_eq r];rfl
theorem layS_len:∀ (as:List (Nat×AV)) (sl:List SV),(layS as sl).length = sl.length
 | [],sl=>rfl
 | (i,a) :: r,sl=>by rw [layS,layS_len r];simp
theorem deads_len:∀ n,(deads n).length = n
 | 0=>rfl
 | n + 1=>by simp [deads,deads_len n]
theorem deads_get:∀ (n t:Nat),getS (deads n) t = .dead
 | 0,t=>rfl
 | n + 1,0=>rfl
 | n + 1,t + 1=>deads_get n t
theorem len'_eq:∀ l:List SV,len' l = l.length
 | []=>rfl
 | _ :: l=>by simp [len',len'_eq l]
theorem layS_R {g:Gh} {hp:HP} {a:Act}:∀ (as:List (Nat×AV)) (sl:List SV),(∀ i x,(i,x) ∈ as→AVR g hp x (a.tmps.getD i undef))→SlR g hp sl a→SlR g hp (layS as sl) a
 | [],sl,_,h=>h
 | (i,x) :: r,sl,hx,h=>by
  refine layS_R r _ (fun j y hj=>hx j y (List.mem_cons_of_mem _ hj)) fun t=>?_
  rw [getS_set]
  by_cases e:i = t∧i < sl.length
  ·rw [if_pos e,← e.1];exact hx i x List.mem_cons_self
  ·rw [if_neg e];exact h t
def laidSt (as:List (Nat×AV)) (os:Heap) (n nx:Nat):St:=⟨layS as (deads n),os,nx⟩
theorem keysLt_spec {m:Nat}:∀ (l:List (Nat×Option Nat)),keysLt m l = true→∀ j x,aget l j = some x→j < m
 | [],_,j,x,h=>by cases h
 | (k,y) :: r,h,j,x,hx=>by
  simp only [keysLt] at h
  cases hb:Nat.blt k m with
  | false=>rw [hb] at h;cases h
  | true =>
   rw [hb] at h
   rw [aget_cons] at hx
   by_cases e:k = j
   ·exact e ▸ blt_lt hb
   ·rw [if_neg e] at hx;exact keysLt_spec r h j x hx
section
variable {mt:Nat→Prop} {g0:Gh} {w0:World} {ds:List Deferred} {N:Nat} {E:Env}
theorem Read.ext {s:Shape} {h:RH} {gA:Nat→Option AV} {x:s.X} {d:DS} {as:List (Nat×AV)} {os:Heap} {g:Gh} {w:World} {m:List Nat} (R:Read s m h gA x d as os) (e:Ext mt g0 w0 g w) (M:Mem mt g h w.heap) (hg0:∀ n,¬ n ∈ m→g0.φ n = none):Ext mt g0 w0 (gE s d g) w:=by
 refine ⟨e.os,e.tape,e.output,e.size,e.keep,fun b hb=>.inl (e.ro b hb),fun b hb=>?_,fun n Q hQ=>?_⟩
 ·exact (R.ro M b hb).elim (e.ro' b) .inr
 ·have hn:n ∈ m:=by
   by_cases q:n ∈ m
   ·exact q
   ·rw [hg0 n q] at hQ;cases hQ
  rw [gE_some (R.ids n hn)]
  exact e.phi n Q hQ
theorem decSt_spec (hg0:∀ n,¬ n ∈ E.keep→g0.φ n = none) {R:Type} {J:Shape} {s:St} {K:J.X→Option R} {r:R} (h:decSt J E.m E.keep s K = some r) :
  ∃ x as os,K x = some r∧(∀ {R:Type} (K':List (Nat×AV)→Heap→R),J.encK x K' = K' as os)∧∀ a w n,n ≤ N→Inv mt g0 w0 ds N s a w→Inv mt g0 w0 ds N (laidSt as os n (topKey J.ob E.m)) a w:=by
 unfold decSt at h
 cases hw:J.wf with
 | false=>rw [hw] at h;cases h
 | true =>
  rw [hw] at h
  obtain ⟨x,d,as,os,hk,R⟩:=Shape.decK_spec h
  cases hlt:keysLt (topKey J.ob E.m) d.asg with
  | false=>rw [hlt] at hk;cases hk
  | true =>
   rw [hlt] at hk
   refine ⟨x,as,os,hk,R.enc0,fun a w n hn ⟨g,A⟩=>⟨gE J d g,R.ext A.ext A.mem hg0,R.mem A.mem hw fun j k o Q b h1 h2 h3 h4 h5=>(A.mem.own k o Q b h2 h3 h4 h5).1,?_,?_,?_,A.dfs⟩⟩
   ·refine layS_R as _ (fun i y hi=>?_) (fun t=>by rw [deads_get];trivial)
    obtain ⟨z,hz,h1,a',h2,h3⟩:=all2_mem R.sl hi
    have h4:getS s.slots i = .v a':=by
     have h2:svA (getS s.slots i) = some a':=h2
     cases hq:getS s.slots i with
     | v b=>rw [hq] at h2;simp only [svA,Option.some.injEq] at h2;rw [h2]
     | tup _=>rw [hq] at h2;cases h2
    have h5:=A.slr i
    rw [h4] at h5
    exact RelA.AVR A.mem h3 h5
   ·show (layS as (deads n)).length ≤ _
    rw [layS_len,deads_len,A.dfs.2];exact hn
   ·intro k hk
    have:aget d.asg k = none:=by
     cases ha:aget d.asg k with
     | none=>rfl
     | some y=>exact absurd (keysLt_spec d.asg hlt k y ha) (Nat.not_lt.2 hk)
    simp only [gE,this]
theorem encSt_eq {R:Type} {J:Shape} {m n:Nat} {x:J.X} {as:List (Nat×AV)} {os:Heap} (h:∀ {R:Type} (K':List (Nat×AV)→Heap→R),J.encK x K' = K' as os) (K:St→R):encSt J m n x K = K (laidSt as os n (topKey J.ob m)):=by
 unfold encSt
 rw [h,laySl_eq]
 rfl
/-! ### regions -/
theorem idx_range:∀ (n a:Nat),idx a n = List.range' a n
 | 0,a=>rfl
 | n + 1,a=>by rw [idx,idx_range n,List.range'_succ]
theorem Inv.drawn {s:St} {a:Act} {w:World} (h:Inv mt g0 w0 ds N s a w):Inv mt g0 w0 ds N s a { w with drawn:=w.drawn + 1 }:=by
 obtain ⟨g,A⟩:=h
 exact ⟨g,⟨A.ext.os,A.ext.tape,A.ext.output,A.ext.size,A.ext.keep,A.ext.ro,A.ext.ro',A.ext.phi⟩,A.mem,A.slr,A.len,A.nx,A.dfs⟩
theorem region_does (ok:EnvOk P E) (hord:P.follows .mixedOrders = true) (hm0:∀ b,w0.heap.size ≤ b→mt b) {id:Nat} {ops:Array Oper} {draw:Bool} {A:Type} {s:St} {K:Ex→St→Option A} {r:A} (h:exec E (.region id ops draw) none s K = some r) :
  ∃ s',K .norm s' = some r∧∀ (Q:Exit→Act→World→Prop),(∀ a w,Inv mt g0 w0 ds N s' a w→Q .normal a w)→∀ a w,Inv mt g0 w0 ds N s a w→(Code.region id ops draw).wp P Q a w:=by
 rw [exec] at h
 obtain ⟨sl',h',l,hl,hK,hR⟩:=runOps_E (next:=s.next) ops.toList 0 s.slots s.heap [] _ r (fun k o ho=>by rw [Nat.zero_add];exact ho) (by rw [Nat.mul_zero,Nat.add_zero];exact h)
 simp only [List.append_nil,List.reverse_reverse] at hK
 have fresh:∀ g:Gh,(∀ n,s.next ≤ n→g.φ n = none)→(∀ k,k ∈ idx 0 ops.toList.length→∀ n,s.next + keys * k ≤ n→n < s.next + keys * k + keys→g.φ n = none)∧∀ n,s.next + keys * ops.size ≤ n→g.φ n = none:=fun g hg =>
  ⟨fun k _ n h1 _=>hg n (Nat.le_trans (Nat.le_add_right _ _) h1),fun n h1=>hg n (Nat.le_trans (Nat.le_add_right _ _) h1)⟩
 refine ⟨⟨sl',h',s.next + keys * ops.size⟩,?_,fun Q hQ a w hI=>?_⟩
 ·cases draw with
  | false=>exact hK
  | true =>
   cases hc:allApart ops.toList (predsOf ops.toList) l 0 ops.toList l with
   | false=>rw [hc] at hK;cases hK
   | true=>rw [hc] at hK;exact hK
 ·have hQ':∀ a w g,After mt g0 w0 (hget h') sl' (s.next + keys * ops.size) ds N a w g→Q .normal a w:=fun a w g A=>hQ a w ⟨g,A⟩
  cases draw with
  | false =>
   obtain ⟨g,A⟩:=hI
   refine wp_region ?_
   have e:List.range ops.size = idx 0 ops.toList.length:=by rw [idx_range,List.range_eq_range'];simp
   rw [e]
   exact wpOps_runs ok hm0 hQ' _ a w g _ _ (by rw [idx_range];exact List.nodup_range') (fun i hi=>by have:=(mem_idx _ _ _).1 hi;simpa using this.2) hR A.ext A.mem A.slr A.len A.dfs (fresh g A.nx).1 (fresh g A.nx).2
  | true =>
   obtain ⟨g,A⟩:=hI.drawn
   cases hc:allApart ops.toList (predsOf ops.toList) l 0 ops.toList l with
   | false=>rw [hc] at hK;cases hK
   | true =>
    have hu:unl ops (Array.replicate ops.size false) = idx 0 ops.toList.length:=by
     unfold unl
     rw [show ops.toList.length = ops.size by simp]
     refine List.filter_eq_self.2 fun k hk=>?_
     have:=(mem_idx _ _ _).1 hk
     simp [Array.getD,show k < ops.size by omega]
    have spec:=allApart_spec ops.toList l 0 hc
    have at_:∀ i o,ops[i]? = some o→ops.toList[i]? = some o∧∃ p,l[i]? = some p:=fun i o ho=>by
     refine ⟨by rw [Array.getElem?_toList];exact ho,?_⟩
     have hi:i < l.length:=by rw [hl];simpa using (Array.getElem?_eq_some_iff.1 ho).1
     exact ⟨l[i],List.getElem?_eq_getElem hi⟩
    refine wp_region_any hord (wpAny_runs ok hm0 (F:=fun k=>l.getD (k - 0) ⟨[],[]⟩) (pre:=fun k j=>Nat.testBit ((predsOf ops.toList).getD k 0) j = true) hQ' (fun i o ho e he hb=>?_) (fun i o ho j hj=>?_) (fun i j oi oj hoi hoj hji=>?_) ops.size _ a _ g s.slots _ (by simp) (by rw [hu,idx_range];simp) (fun k hk hl'=>?_) (by rw [hu];exact hR) A.ext A.mem A.slr A.len A.dfs (by rw [hu];exact (fresh g A.nx).1) (fresh g A.nx).2)
    ·obtain ⟨h1,p,h2⟩:=at_ i o ho
     have:=(spec i o p h1 h2).1 e he hb
     simpa using this
    ·have:=(preds_spec ops.toList []).2 i o (at_ i o ho).1 j (by simpa [predsOf] using hj)
     exact this
    ·obtain ⟨h1,p,h2⟩:=at_ i oi hoi
     obtain ⟨h3,q,h4⟩:=at_ j oj hoj
     have:=(spec i oi p h1 h2).2 j oj q (by simpa using hji) h3 h4
     simp only [Nat.zero_add] at this
     refine this.imp (fun q=>q) fun hA=>?_
     simp only [Nat.sub_zero,List.getD_eq_getElem?_getD,h2,h4,Option.getD_some]
     exact hA
    ·simp [Array.getD,hk] at hl'
/-! ### code -/
def LoopP (P:Program) (c:Code) (Q:Exit→Act→World→Prop) (a:Act) (w:World):Prop :=
 ∀ (b:Frame) (k:List Item) (cs:List Frame),∃ e a' w',Q e a' w'∧Arrives P (lone (b.at a (.code c :: .inLoop c :: k)) cs w) b k cs e a' w'
theorem loop_round {c:Code} {Q:Exit→Act→World→Prop} {a:Act} {w:World} (h:c.wp P (Exit.then (LoopP P c Q) Q) a w):LoopP P c Q a w:=by
 intro b k cs
 obtain ⟨e,a₁,w₁,hq,harr⟩:=h b (.inLoop c :: k) cs
 cases e with
 | normal =>
  obtain ⟨e₂,a₂,w₂,hq₂,harr₂⟩:=hq b k cs
  exact ⟨e₂,a₂,w₂,hq₂,.of_steps (Steps.trans harr (.one step_inLoop)) harr₂⟩
 | exit id=>exact ⟨_,a₁,w₁,hq,.pass (x:=.inLoop c) rfl (fun _ _=>.inl (by simp)) harr⟩
 | goto l=>exact ⟨_,a₁,w₁,hq,.pass (x:=.inLoop c) rfl (fun _ _=>.inl (by simp)) harr⟩
 | ret=>exact ⟨_,a₁,w₁,hq,.pass (x:=.inLoop c) rfl (fun _ _=>.inl (by simp)) harr⟩
 | panic ch=>exact ⟨_,a₁,w₁,hq,.pass (x:=.inLoop c) rfl (fun _ _=>.inl (by simp)) harr⟩
 | outgrown=>exact ⟨_,a₁,w₁,hq,.pass (x:=.inLoop c) rfl (fun _ _=>.inl (by simp)) harr⟩
theorem loop_start {c:Code} {Q:Exit→Act→World→Prop} {a:Act} {w:World} (h:LoopP P c Q a w):(Code.loop c).wp P Q a w:=fun b k cs =>
 let ⟨e,a',w',hq,harr⟩:=h b k cs
 ⟨e,a',w',hq,.of_steps (.one step_loop) harr⟩
theorem it_spec {X B:Type} {step:(X→Option B)→X→Option B} {r:B} {G:X→Prop} (h:∀ rec x,(∀ y,rec y = some r→G y)→step rec x = some r→G x):∀ (n:Nat) (x:X),it step n x = some r→G x
 | 0,x,hx=>by rw [it_zero] at hx;cases hx
 | n + 1,x,hx=>h (it step n) x (fun y hy=>it_spec h n y hy) (by rw [it_succ] at hx;exact hx)
/-! ### scopes -/
def ScopeP (P:Program) (body rest:Code) (Q:Exit→Act→World→Prop) (a:Act) (w:World):Prop :=
 ∀ (b:Frame) (k:List Item) (cs:List Frame),∃ e a' w',Q e a' w'∧Arrives P (lone (b.at a (.code rest :: .inScope body :: k)) cs w) b k cs e a' w'
theorem step_inScope {P:Program} {b:Frame} {a:Act} {k:List Item} {cs:List Frame} {w:World} {body:Code}:step P (lone (b.at a (.inScope body :: k)) cs w) = .next (lone (b.at a k) cs w) :=
 step_lone_go (by simp [stepG,stepG.exec,Frame.at])
theorem step_scope {P:Program} {b:Frame} {a:Act} {k:List Item} {cs:List Frame} {w:World} {body:Code}:step P (lone (b.at a (.code (.scope body) :: k)) cs w) = .next (lone (b.at a (.code body :: .inScope body :: k)) cs w) :=
 step_lone_go (by simp [stepG,stepG.exec,Frame.at])
def Exit.inScope (P:Program) (body:Code) (Q:Exit→Act→World→Prop):Exit→Act→World→Prop
 | .goto l,a,w=>match findLabel body l with
  | some rest=>ScopeP P body rest Q a w
  | none=>Q (.goto l) a w
 | e,a,w=>Q e a w
theorem scope_round {body rest:Code} {Q:Exit→Act→World→Prop} {a:Act} {w:World} (h:rest.wp P (Exit.inScope P body Q) a w):ScopeP P body rest Q a w:=by
 intro b k cs
 obtain ⟨e,a₁,w₁,hq,harr⟩:=h b (.inScope body :: k) cs
 cases e with
 | normal=>exact ⟨.normal,a₁,w₁,hq,Steps.trans harr (.one step_inScope)⟩
 | exit id=>exact ⟨.exit id,a₁,w₁,hq,fun k' hk=>harr k' (by simp [exitTo,hk])⟩
 | goto l =>
  cases hl:findLabel body l with
  | none =>
   simp only [Exit.inScope,hl] at hq
   exact ⟨.goto l,a₁,w₁,hq,fun k' hk=>harr k' (by simp [gotoIn,hl,hk])⟩
  | some rest' =>
   simp only [Exit.inScope,hl] at hq
   obtain ⟨e₂,a₂,w₂,hq₂,harr₂⟩:=hq b k cs
   exact ⟨e₂,a₂,w₂,hq₂,.of_steps (harr (.code rest' :: .inScope body :: k) (by simp [gotoIn,hl])) harr₂⟩
 | ret=>exact ⟨.ret,a₁,w₁,hq,harr⟩
 | panic ch=>exact ⟨.panic ch,a₁,w₁,hq,harr⟩
 | outgrown=>exact ⟨.outgrown,a₁,w₁,hq,harr⟩
theorem scope_start {body:Code} {Q:Exit→Act→World→Prop} {a:Act} {w:World} (h:ScopeP P body body Q a w):(Code.scope body).wp P Q a w:=fun b k cs =>
 let ⟨e,a',w',hq,harr⟩:=h b k cs
 ⟨e,a',w',hq,.of_steps (.one step_scope) harr⟩
theorem hasLabel_find:∀ (c:Code) (l:Nat),hasLabel c l = (findLabel c l).isSome
 | .seq a b,l=>by
  rw [hasLabel,findLabel,hasLabel_find a l,hasLabel_find b l]
  cases findLabel a l <;> simp
 | .label l',l=>by
  simp only [hasLabel,findLabel]
  by_cases e:l' = l
  ·subst e;simp [beq_self]
  ·rw [beq_ne e];simp [e]
 | .skip,_=>rfl
 | .region _ _ _,_=>rfl
 | .cond _ _ _,_=>rfl
 | .block _ _,_=>rfl
 | .loop _,_=>rfl
 | .exit _,_=>rfl
 | .goto _,_=>rfl
 | .ret,_=>rfl
 | .scope _,_=>rfl
 | .rangeFunc _ _ _ _,_=>rfl
 | .refuse _,_=>rfl
theorem exec_does (ok:EnvOk P E) (hord:P.follows .mixedOrders = true) (hm0:∀ b,w0.heap.size ≤ b→mt b) (hg0:∀ n,¬ n ∈ E.keep→g0.φ n = none):∀ (c:Code),
  (∀ {A:Type} (s:St) (K:Ex→St→Option A) (r:A),exec E c none s K = some r→∀ (Q:Exit→Act→World→Prop),(∀ e s',K e s' = some r→∀ a w,Inv mt g0 w0 ds N s' a w→Q (exitOf e) a w)→∀ a w,Inv mt g0 w0 ds N s a w→c.wp P Q a w) ∧
  (∀ (l:Nat) {A:Type} (s:St) (K:Ex→St→Option A) (r:A),exec E c (some l) s K = some r→∃ rest,findLabel c l = some rest∧∀ (Q:Exit→Act→World→Prop),(∀ e s',K e s' = some r→∀ a w,Inv mt g0 w0 ds N s' a w→Q (exitOf e) a w)→∀ a w,Inv mt g0 w0 ds N s a w→rest.wp P Q a w):=by
 have lenN:∀ (s:St) (a:Act) (w:World),Inv mt g0 w0 ds N s a w→len' s.slots ≤ N:=fun s a w ⟨g,hA⟩=>by
  rw [len'_eq,← hA.dfs.2];exact hA.len
 intro c
 induction c with
 | skip=>exact ⟨fun s K r h Q hQ a w hI=>wp_skip (hQ .norm s h a w hI),fun l A s K r h=>by cases h⟩
 | region id ops draw =>
  refine ⟨fun s K r h Q hQ a w hI=>?_,fun l A s K r h=>by cases h⟩
  obtain ⟨s',h1,h2⟩:=region_does (mt:=mt) (g0:=g0) (w0:=w0) (ds:=ds) (N:=N) ok hord hm0 h
  exact h2 Q (fun a w hI'=>hQ .norm s' h1 a w hI') a w hI
 | seq x y ihx ihy =>
  refine ⟨fun {A} s K r h Q hQ a w hI=>?_,fun l A s K r h=>?_⟩
  ·rw [exec] at h
   refine wp_seq ?_
   split at h
   ·refine ihx.1 s _ r h _ (fun e s' hk a w hI'=>?_) a w hI
    cases e with
    | norm=>exact ihy.1 s' K r hk Q hQ a w hI'
    | exit i=>exact hQ (.exit i) s' hk a w hI'
    | goto i=>exact hQ (.goto i) s' hk a w hI'
    | ret=>exact hQ .ret s' hk a w hI'
   ·rename_i J hJ
    obtain ⟨z,hx,h⟩:=Option.bind_eq_some_iff.1 h
    have h:Sum.elim (fun x=>encSt J E.m (len' s.slots) x fun s'=>exec E y none s' K) some z = some r:=h
    have hlen:=lenN s a w hI
    refine ihx.1 s _ z hx _ (fun e s' hk a w hI'=>?_) a w hI
    have leave:∀ (o:Option A) ,noExit (B:=A) (R:=J.X ⊕ A) Sum.inr o = some z→o = some r:=fun o ho=>by
     cases o with
     | none=>cases ho
     | some q =>
      simp only [noExit,Option.some.injEq] at ho
      subst ho
      exact h
    cases e with
    | norm =>
     obtain ⟨x',as,os,h1,h2,h3⟩:=decSt_spec (N:=N) (ds:=ds) (w0:=w0) (mt:=mt) hg0 hk
     simp only [Option.some.injEq] at h1
     subst h1
     have h:encSt J E.m (len' s.slots) x' (fun s'=>exec E y none s' K) = some r:=h
     rw [encSt_eq h2] at h
     exact ihy.1 _ K r h Q hQ a w (h3 a w _ hlen hI')
    | exit i=>exact hQ (.exit i) s' (leave _ hk) a w hI'
    | goto i=>exact hQ (.goto i) s' (leave _ hk) a w hI'
    | ret=>exact hQ .ret s' (leave _ hk) a w hI'
  ·rw [exec] at h
   cases hl:hasLabel x l with
   | false =>
    rw [hl] at h
    obtain ⟨rest,h1,h2⟩:=ihy.2 l s K r h
    refine ⟨rest,?_,h2⟩
    have:findLabel x l = none:=by
     rw [hasLabel_find] at hl
     simpa using hl
    rw [findLabel,this]
    exact h1
   | true =>
    rw [hl] at h
    obtain ⟨rest,h1,h2⟩:=ihx.2 l s _ r h
    refine ⟨.seq rest y,by rw [findLabel,h1],fun Q hQ a w hI=>wp_seq (h2 _ (fun e s' hk a w hI'=>?_) a w hI)⟩
    cases e with
    | norm=>exact ihy.1 s' K r hk Q hQ a w hI'
    | exit i=>exact hQ (.exit i) s' hk a w hI'
    | goto i=>exact hQ (.goto i) s' hk a w hI'
    | ret=>exact hQ .ret s' hk a w hI'
 | cond c t e iht ihe =>
  refine ⟨fun s K r h Q hQ a w hI=>?_,fun l A s K r h=>by cases h⟩
  rw [exec] at h
  split at h
  ·rename_i b hb
   obtain ⟨g,hA⟩:=hI
   have h1:=rd_SVR hA.slr c
   rw [hb] at h1
   have h1:a.eval c = .bool b:=h1
   cases b with
   | false=>exact wp_cond_false h1 (ihe.1 s K r h Q hQ a w ⟨g,hA⟩)
   | true=>exact wp_cond_true h1 (iht.1 s K r h Q hQ a w ⟨g,hA⟩)
  ·cases h
 | block id b ih =>
  refine ⟨fun {A} s K r h Q hQ a w hI=>?_,fun l A s K r h=>by cases h⟩
  rw [exec] at h
  refine wp_block (ih.1 s _ r h _ (fun e s' hk a w hI'=>?_) a w hI)
  cases e with
  | norm=>exact hQ .norm s' hk a w hI'
  | goto i=>exact hQ (.goto i) s' hk a w hI'
  | ret=>exact hQ .ret s' hk a w hI'
  | exit i =>
   have hk:(Bool.casesOn (Nat.beq i id) (K (.exit i) s') (K .norm s'):Option A) = some r:=hk
   show Exit.inBlock id Q (.exit i) a w
   unfold Exit.inBlock
   simp only
   by_cases e:i = id
   ·subst e
    rw [if_pos rfl]
    rw [beq_self] at hk
    exact hQ .norm s' hk a w hI'
   ·rw [if_neg e]
    rw [beq_ne e] at hk
    exact hQ (.exit i) s' hk a w hI'
 | loop b ih =>
  refine ⟨fun s K r h Q hQ a w hI=>?_,fun l A s K r h=>by cases h⟩
  rw [exec] at h
  split at h
  ·cases h
  ·rename_i J hJ
   obtain ⟨x,as,os,h1,h2,h3⟩:=decSt_spec (N:=N) (ds:=ds) (w0:=w0) (mt:=mt) hg0 h
   have hlen:=lenN s a w hI
   refine loop_start ?_
   have one:∀ (J:Shape) (x:J.X),it (fun rec2 x2=>encSt J E.m (len' s.slots) x2 fun s3=>exec E b none s3 fun e2 s4=>match e2 with
     | .norm=>decSt J E.m E.keep s4 rec2
     | .exit i=>K (.exit i) s4
     | .goto i=>K (.goto i) s4
     | .ret=>K .ret s4) E.fuel x = some r→∀ as os,(∀ {R:Type} (K':List (Nat×AV)→Heap→R),J.encK x K' = K' as os)→∀ a w,Inv mt g0 w0 ds N (laidSt as os (len' s.slots) (topKey J.ob E.m)) a w→LoopP P b Q a w:=fun J x h1 =>
    it_spec (r:=r) (G:=fun x=>∀ as os,(∀ {R:Type} (K':List (Nat×AV)→Heap→R),J.encK x K' = K' as os)→∀ a w,Inv mt g0 w0 ds N (laidSt as os (len' s.slots) (topKey J.ob E.m)) a w→LoopP P b Q a w) (fun rec x hrec hx as os henc a w hI'=>by
    rw [encSt_eq henc] at hx
    refine loop_round (ih.1 _ _ r hx _ (fun e s2 hk a w hI2=>?_) a w hI')
    cases e with
    | norm =>
     obtain ⟨x2,as2,os2,k1,k2,k3⟩:=decSt_spec (N:=N) (ds:=ds) (w0:=w0) (mt:=mt) hg0 hk
     exact hrec x2 k1 as2 os2 k2 a w (k3 a w _ hlen hI2)
    | exit i=>exact hQ (.exit i) s2 hk a w hI2
    | goto i=>exact hQ (.goto i) s2 hk a w hI2
    | ret=>exact hQ .ret s2 hk a w hI2) E.fuel x h1
   have key:=it_spec (r:=r) (G:=fun x=>∀ as os,(∀ {R:Type} (K':List (Nat×AV)→Heap→R),J.encK x K' = K' as os)→∀ a w,Inv mt g0 w0 ds N (laidSt as os (len' s.slots) (topKey J.ob E.m)) a w→LoopP P b Q a w) (fun rec x hrec hx as os henc a w hI'=>?_) E.fuel x h1
   ·exact key as os h2 a w (h3 a w _ hlen hI)
   ·rw [encSt_eq henc] at hx
    refine loop_round (ih.1 _ _ r hx _ (fun e s2 hk a w hI2=>?_) a w hI')
    cases e with
    | norm =>
     cases hb:leaves E (fid b) J s2 with
     | false =>
      have hk:(Bool.casesOn (leaves E (fid b) J s2) (decSt J E.m E.keep s2 rec) _:Option _) = some r:=hk
      rw [hb] at hk
      obtain ⟨x2,as2,os2,k1,k2,k3⟩:=decSt_spec (N:=N) (ds:=ds) (w0:=w0) (mt:=mt) hg0 hk
      exact hrec x2 k1 as2 os2 k2 a w (k3 a w _ hlen hI2)
     | true =>
      have hk:(Bool.casesOn (leaves E (fid b) J s2) (decSt J E.m E.keep s2 rec) _:Option _) = some r:=hk
      rw [hb] at hk
      dsimp only at hk
      split at hk
      ·cases hk
      ·rename_i H2 hH2
       obtain ⟨x2,as2,os2,k1,k2,k3⟩:=decSt_spec (N:=N) (ds:=ds) (w0:=w0) (mt:=mt) hg0 hk
       exact one H2 x2 k1 as2 os2 k2 a w (k3 a w _ hlen hI2)
    | exit i=>exact hQ (.exit i) s2 hk a w hI2
    | goto i=>exact hQ (.goto i) s2 hk a w hI2
    | ret=>exact hQ .ret s2 hk a w hI2
 | exit i=>exact ⟨fun s K r h Q hQ a w hI=>wp_exit (hQ (.exit i) s h a w hI),fun l A s K r h=>by cases h⟩
 | label l' =>
  refine ⟨fun s K r h Q hQ a w hI=>wp_label (hQ .norm s h a w hI),fun l A s K r h=>?_⟩
  rw [exec] at h
  cases hb:Nat.beq l' l with
  | false=>rw [hb] at h;cases h
  | true =>
   rw [hb] at h
   exact ⟨.skip,by rw [findLabel,beq_eq hb];simp,fun Q hQ a w hI=>wp_skip (hQ .norm s h a w hI)⟩
 | goto l'=>exact ⟨fun s K r h Q hQ a w hI=>wp_goto (hQ (.goto l') s h a w hI),fun l A s K r h=>by cases h⟩
 | ret=>exact ⟨fun s K r h Q hQ a w hI=>wp_ret (hQ .ret s h a w hI),fun l A s K r h=>by cases h⟩
 | scope b ih =>
  refine ⟨fun {A} s K r h Q hQ a w hI=>?_,fun l A s K r h=>by cases h⟩
  rw [exec] at h
  refine scope_start (scope_round (ih.1 s _ r h _ (fun e s' hk a w hI'=>?_) a w hI))
  cases e with
  | norm=>exact hQ .norm s' hk a w hI'
  | exit i=>exact hQ (.exit i) s' hk a w hI'
  | ret=>exact hQ .ret s' hk a w hI'
  | goto l =>
   cases hl:hasLabel b l with
   | false =>
    simp only [hl] at hk
    have hf:findLabel b l = none:=by rw [hasLabel_find] at hl;simpa using hl
    show Exit.inScope P b Q (.goto l) a w
    simp only [Exit.inScope,hf]
    exact hQ (.goto l) s' hk a w hI'
   | true =>
    simp only [hl] at hk
    obtain ⟨rest,hf⟩:=Option.isSome_iff_exists.1 ((hasLabel_find b l).symm.trans hl)
    show Exit.inScope P b Q (.goto l) a w
    simp only [Exit.inScope,hf]
    split at hk
    ·cases hk
    ·rename_i J hJ
     obtain ⟨x,as,os,h1,h2,h3⟩:=decSt_spec (N:=N) (ds:=ds) (w0:=w0) (mt:=mt) hg0 hk
     have hlen:len' s.slots ≤ N:=lenN s _ _ hI
     have key:=it_spec (r:=r) (G:=fun x=>∀ as os,(∀ {R:Type} (K':List (Nat×AV)→Heap→R),J.encK x K' = K' as os)→∀ a w,Inv mt g0 w0 ds N (laidSt as os (len' s.slots) (topKey J.ob E.m)) a w→ScopeP P b rest Q a w) (fun rec x hrec hx as os henc a w hI'=>?_) E.fuel x h1
     ·exact key as os h2 a w (h3 a w _ hlen hI')
     ·rw [encSt_eq henc] at hx
      obtain ⟨rest',hf',hw⟩:=ih.2 l _ _ r hx
      rw [hf] at hf'
      cases hf'
      refine scope_round (hw _ (fun e s3 hk a w hI3=>?_) a w hI')
      cases e with
      | norm=>exact hQ .norm s3 hk a w hI3
      | exit i=>exact hQ (.exit i) s3 hk a w hI3
      | ret=>exact hQ .ret s3 hk a w hI3
      | goto l2 =>
       cases hb:Nat.beq l2 l with
       | true =>
        obtain rfl:=beq_eq hb
        simp only [hb] at hk
        obtain ⟨x2,as2,os2,k1,k2,k3⟩:=decSt_spec (N:=N) (ds:=ds) (w0:=w0) (mt:=mt) hg0 hk
        show Exit.inScope P b Q (.goto l2) a w
        simp only [Exit.inScope,hf]
        exact hrec x2 k1 as2 os2 k2 a w (k3 a w _ hlen hI3)
       | false =>
        simp only [hb] at hk
        cases hl2:hasLabel b l2 with
        | true=>simp only [hl2] at hk;cases hk
        | false =>
         simp only [hl2] at hk
         have hf2:findLabel b l2 = none:=by rw [hasLabel_find] at hl2;simpa using hl2
         show Exit.inScope P b Q (.goto l2) a w
         simp only [Exit.inScope,hf2]
         exact hQ (.goto l2) s3 hk a w hI3
 | _=>exact ⟨fun s K r h=>(by cases h),fun l A s K r h=>(by cases h)⟩
end
end Go.Proofs.YthdgahpomhnidaaGreat.Mx
/- A function that the interpreter runs is as its shapes tell (own work). -/
namespace Go.Proofs.YthdgahpomhnidaaGreat.Mx
open Go
set_option autoImplicit false
set_option linter.unusedVariables false
set_option linter.unusedSimpArgs false
universe u
variable {P:Program}
def resRun (tmps:Array Value):ResultVar→Sem Value
 | .tmp t=>pure (tmps.getD t undef)
 | .cell a t=>do loadVar t (← asAddr (tmps.getD a undef))
section
variable {mt:Nat→Prop} {g0:Gh} {w0:World} {ds:List Deferred} {N:Nat} {E:Env}
theorem res_does (T:TIs P E.ti) {s:St} {a:Act} {w:World} {g:Gh} (A:After mt g0 w0 (hget s.heap) s.slots s.next ds N a w g) {rv:ResultVar} {av:AV} (h:resAV s E.ti rv = some av):∃ V,(resRun a.tmps rv).run P w = .ok V w∧AVR g w.heap av V:=by
 cases rv with
 | tmp t =>
  refine ⟨_,rfl,?_⟩
  have h1:=A.slr t
  have h:svA (getS s.slots t) = some av:=h
  cases hq:getS s.slots t with
  | v b=>rw [hq] at h h1;simp only [svA,Option.some.injEq] at h;rw [h] at h1;exact h1
  | tup _=>rw [hq] at h;cases h
 | cell b t =>
  simp only [resAV] at h
  split at h
  ·rename_i n off i hs hi
   split at h
   ·rename_i cs ho
    split at h
    ·rename_i l hl
     have h1:=A.slr b
     rw [hs] at h1
     have hev:(loadM i (.v (.c (.ptr n off)))).eval 0 (hget s.heap) ⟨[],[]⟩ = some (.v av,hget s.heap,⟨[n],[]⟩):=by
      simp only [loadM,MA.eval,ho,hl,h,svO]
     obtain ⟨V,k1,k2,_⟩:=load_does (T t i hi) A.mem h1 hev
     refine ⟨V,?_,k2⟩
     obtain ⟨Q,bl,q1,q2,q3⟩:=h1
     rw [← k1,q3]
     simp only [resRun,q3,asAddr,Instr.loadAt,Instr.sureAddr]
    ·cases h
   ·cases h
  ·cases h
theorem results_does (T:TIs P E.ti) {s:St} {a:Act} {w:World} {g:Gh} (A:After mt g0 w0 (hget s.heap) s.slots s.next ds N a w g):∀ (rs:List ResultVar) (avs:List AV),rs.map (resAV s E.ti) = avs.map some→∃ Vs,(rs.mapM (resRun a.tmps)).run P w = .ok Vs w∧All2 (AVR g w.heap) avs Vs
 | [],[],_=>⟨[],rfl,trivial⟩
 | rv :: rs,av :: avs,h=>by
  simp only [List.map_cons,List.cons.injEq] at h
  obtain ⟨V,h1,h2⟩:=res_does T A h.1
  obtain ⟨Vs,k1,k2⟩:=results_does T A rs avs h.2
  exact ⟨V :: Vs,by simp only [List.mapM_cons,Sem.run_bind,h1,Result.andThen_ok,k1,Sem.run_pure],h2,k2⟩
 | [],_ :: _,h=>by cases h
 | _ :: _,[],h=>by cases h
theorem seq_all {h:RH} {d:DS} {l:List (Option AV)}:∀ (ss:List (Nat×AF)) (as:List (Nat×AV)) (i:Nat),seqFrom ss i l.length = true→All2 (RelS h d (nthO l)) ss as→∃ avs:List AV,l.drop i = avs.map some∧All2 (RelA h d) (as.map (·.2)) avs
 | [],[],i,hs,_=>by
  have:=beq_eq hs
  exact ⟨[],by rw [this];simp,trivial⟩
 | (j,f) :: ss,(j',a) :: as,i,hs,⟨h1,h2⟩=>by
  simp only [seqFrom,Bool.and_eq_true] at hs
  obtain rfl:=beq_eq hs.1
  obtain ⟨avs,h3,h4⟩:=seq_all ss as (j + 1) hs.2 h2
  obtain ⟨h5,a',h6,h7⟩:=h1
  simp only at h5 h6 h7
  rw [← h5] at h6
  have:∀ (l:List (Option AV)) (j:Nat) (a':AV),nthO l j = some a'→l.drop j = some a' :: l.drop (j + 1):=by
   intro l
   induction l with
   | nil=>intro j a' h;cases h
   | cons x l ih =>
    intro j a' h
    cases j with
    | zero=>simp only [nthO] at h;simp [h]
    | succ j=>simpa using ih j a' h
  exact ⟨a' :: avs,by rw [this l j a' h6,h3];rfl,h7,h4⟩
 | [],_ :: _,_,_,h=>h.elim
 | _ :: _,[],_,_,h=>h.elim
theorem decOuts_spec {R:Type} {m:List Nat} {h:RH} {gA:Nat→Option AV}:∀ (ss:List Shape) (K:sumX ss→R) (r:R),decOuts m h gA ss K = some r→∃ rr,r = K rr∧∃ so,so ∈ ss∧∃ x d as os,Read so m h gA x d as os ∧
  ∀ Q:Shape→List (Nat×AV)→Heap→Prop,Q so as os→Outs ss rr Q
 | [],K,r,hk=>by cases hk
 | [so],K,r,hk=>by
  obtain ⟨x,d,as,os,h1,h2⟩:=Shape.decK_spec (show so.decK m h gA (fun x _=>some (K x)) = some r from hk)
  simp only [Option.some.injEq] at h1
  refine ⟨x,h1.symm,so,List.mem_singleton.2 rfl,x,d,as,os,h2,fun Q hQ=>?_⟩
  obtain ⟨as',os',L⟩:=Shape.laid so x
  obtain ⟨rfl,rfl⟩:=L.same h2.enc0
  exact ⟨_,_,L,hQ⟩
 | so :: t :: ss,K,r,hk=>by
  have hk:(match so.decK m h gA (fun x _=>some (K (Sum.inl x))) with
   | some y=>some y
   | none=>decOuts m h gA (t :: ss) fun y=>K (Sum.inr y)) = some r:=hk
  split at hk
  ·rename_i y hy
   cases hk
   obtain ⟨x,d,as,os,h1,h2⟩:=Shape.decK_spec hy
   simp only [Option.some.injEq] at h1
   refine ⟨Sum.inl x,h1.symm,so,List.mem_cons_self,x,d,as,os,h2,fun Q hQ=>?_⟩
   obtain ⟨as',os',L⟩:=Shape.laid so x
   obtain ⟨rfl,rfl⟩:=L.same h2.enc0
   exact ⟨_,_,L,hQ⟩
  ·obtain ⟨rr,h1,so',h2,x,d,as,os,h3,h4⟩:=decOuts_spec (t :: ss) (fun y=>K (Sum.inr y)) r hk
   exact ⟨Sum.inr rr,h1,so',List.mem_cons_of_mem _ h2,x,d,as,os,h3,h4⟩
theorem fin_does (T:TIs P E.ti) (hg0:∀ n,¬ n ∈ E.keep→g0.φ n = none) {fn:Func} {outs:List Shape} (hwf:outs.all Shape.wf = true) {e:Ex} {s:St} {r:sumX outs} (h:fin E fn outs e s = some r) {a:Act} {w:World} (hI:Inv mt g0 w0 ds N s a w) :
  (exitOf e = .normal ∨ exitOf e = .ret)∧a.defers = ds∧∃ V,(results fn a.tmps).run P w = .ok V w∧Outs outs r fun _ as os=>∃ g',Ext mt g0 w0 g' w∧Mem mt g' (hget os) w.heap∧SVR g' w.heap (mkRes as) V:=by
 have main:(Bool.casesOn (outs.all fun o=>seqFrom o.sl 0 fn.results.size) none (decOuts E.keep (hget s.heap) (nthO (fn.results.toList.map (resAV s E.ti))) outs id):Option (sumX outs)) = some r →
   a.defers = ds∧∃ V,(results fn a.tmps).run P w = .ok V w∧Outs outs r fun _ as os=>∃ g',Ext mt g0 w0 g' w∧Mem mt g' (hget os) w.heap∧SVR g' w.heap (mkRes as) V:=fun h=>by
  obtain ⟨g,A⟩:=hI
  refine ⟨A.dfs.1,?_⟩
  cases hsq:(outs.all fun o=>seqFrom o.sl 0 fn.results.size) with
  | false=>rw [hsq] at h;cases h
  | true =>
   rw [hsq] at h
   obtain ⟨rr,h1,so,h2,x,d,as,os,R,hO⟩:=decOuts_spec outs id r h
   obtain rfl:r = rr:=h1
   have hs:=List.all_eq_true.1 hsq so h2
   obtain ⟨avs,h3,h4⟩:=seq_all (l:=fn.results.toList.map (resAV s E.ti)) so.sl as 0 (by simpa using hs) R.sl
   rw [List.drop_zero] at h3
   obtain ⟨Vs,h5,h6⟩:=results_does T A _ avs h3
   have hVs:All2 (AVR (gE so d g) w.heap) (as.map (·.2)) Vs:=All2.comp (R:=RelA (hget s.heap) d) (S:=AVR g w.heap) (T:=AVR (gE so d g) w.heap) (fun _ _ _ p q=>RelA.AVR A.mem p q) h4 h6
   have hrun:(fn.results.mapM (resRun a.tmps)).run P w = .ok Vs.toArray w:=by
    rw [← Array.toArray_toList (xs:=fn.results),List.mapM_toArray,Sem.run_map,h5]
    rfl
   have hres:results fn a.tmps = (do let vs ← fn.results.mapM (resRun a.tmps);pure (if h:vs.size = 1 then vs[0] else .tuple vs)):=by
    unfold results
    congr 1
   refine ⟨_,by rw [hres,Sem.run_bind,hrun];rfl,hO _ ⟨gE so d g,R.ext A.ext A.mem hg0,R.mem A.mem (List.all_eq_true.1 hwf so h2) fun j k o Q b h1 h2 h3 h4 h5=>(A.mem.own k o Q b h2 h3 h4 h5).1,?_⟩⟩
   match as,Vs,hVs with
   | [],[],_=>exact ⟨[],rfl,trivial⟩
   | [a1],[v1],hv=>exact hv.1
   | a1 :: a2 :: r1,v1 :: v2 :: vs,hv =>
    refine ⟨v1 :: v2 :: vs,?_,hv⟩
    rw [dif_neg]
    simp
   | [],_ :: _,hv=>exact hv.elim
   | [_],[],hv=>exact hv.elim
   | [_],_ :: _ :: _,hv=>exact hv.2.elim
   | _ :: _ :: _,[],hv=>exact hv.elim
   | _ :: _ :: _,[_],hv=>exact hv.2.elim
 cases e with
 | norm=>exact ⟨.inl rfl,main h⟩
 | ret=>exact ⟨.inr rfl,main h⟩
 | exit i=>cases h
 | goto i=>cases h
end
theorem sound_of_run {f : Nat} {fn : Func} {c : Code} {S : FnSpec} (Ev : S.ins.X → Env) (hf : P.funcs[f]? = some fn) (hb : fn.body = some c) (hname : (fn.name == "runtime.NumGoroutine") = false) (hord : P.follows .mixedOrders = true)
    (ok : ∀ x, EnvOk P (Ev x)) (hkeep : ∀ x, (Ev x).keep = S.keep) (wfi : S.ins.wf = true) (wfo : S.outs.all Shape.wf = true) (hrun : ∀ x r, S.f x = some r → runFn (Ev x) fn c S x = some r) : Sound P f S := by
  refine ⟨wfi, wfo, fun x r hr mt g w vs as os L M hmt hg hargs => .inl ⟨?_, ?_⟩⟩
  · have hbn : fn.body.isNone = false := by rw [hb]; rfl
    simp only [callFunc, Sem.run_bind, run_program, Result.andThen_ok, hf, hname, hbn, Bool.false_eq_true, if_false, Sem.run_pure]
  · have h1 := hrun x r hr
    unfold runFn start at h1
    have hk0 : ∀ n, ¬ n ∈ (Ev x).keep → (gK S.keep g).φ n = none := fun n hn => by
      rw [hkeep x] at hn
      show (if n ∈ S.keep then g.φ n else none) = none
      rw [if_neg hn]
    have e0 : Ext mt (gK S.keep g) w g w := ⟨rfl, rfl, rfl, Nat.le_refl _, fun _ _ _ => rfl, fun _ h => h, fun _ h => .inl h, fun n Q h => by
      have h : (if n ∈ S.keep then g.φ n else none) = some Q := h
      split at h
      · exact h
      · cases h⟩
    rw [L.enc0, laySl_eq] at h1
    refine calls_of_wp hf hb ((exec_does (E := Ev x) (mt := mt) (g0 := gK S.keep g) (w0 := w) (ds := []) (N := (vs ++ Array.replicate (fn.ntmps - vs.size) undef).size) (ok x) hord hmt hk0 c).1 _ _ r h1 _ (fun e s' hk a w' hI => ?_) _ _ ⟨g, e0, M, ?_, ?_, hg, rfl, rfl⟩)
    · obtain ⟨h2, h3, V, h4, h5⟩ := fin_does (ok x).1 hk0 wfo hk hI
      rcases h2 with h2 | h2
      · rw [h2]; exact ⟨h3, V, h4, V, rfl, h5⟩
      · rw [h2]; exact ⟨h3, V, h4, V, rfl, h5⟩
    · refine layS_R as _ (fun i y hi => ?_) (fun t => by rw [deads_get]; trivial)
      have h2 := hargs i y hi
      have : (vs ++ Array.replicate (fn.ntmps - vs.size) undef).getD i undef = vs.getD i undef := by
        simp only [Array.getD_eq_getD_getElem?, Array.getElem?_append]
        split
        · rfl
        · rename_i hlt
          rw [Array.getElem?_eq_none (xs := vs) (Nat.not_lt.1 hlt), Array.getElem?_replicate]
          split <;> rfl
      rw [this]
      exact h2
    · show (layS as (deads fn.ntmps)).length ≤ _
      rw [layS_len, deads_len]
      simp
      omega
end Go.Proofs.YthdgahpomhnidaaGreat.Mx
namespace Go.Proofs.YthdgahpomhnidaaGreat.Mx
open Go
variable {P:Program}
theorem FnsOk.nil:∀ f S,S ∈ fnsOf [] f→Sound P f S:=fun f S h=>by cases h
theorem FnsOk.cons {k:Nat} {T:FnSpec} {l:List (Nat×FnSpec)} (h:Sound P k T) (hl:∀ f S,S ∈ fnsOf l f→Sound P f S):∀ f S,S ∈ fnsOf ((k,T) :: l) f→Sound P f S:=fun f S hS=>by
 by_cases e:k = f
 ·subst e
  simp only [fnsOf,beq_self,List.mem_cons] at hS
  rcases hS with rfl | hS
  ·exact h
  ·exact hl k S hS
 ·simp only [fnsOf,beq_ne e] at hS
  exact hl f S hS
end Go.Proofs.YthdgahpomhnidaaGreat.Mx

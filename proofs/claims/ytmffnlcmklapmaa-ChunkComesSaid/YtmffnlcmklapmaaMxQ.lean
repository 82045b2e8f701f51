/- Each operation of the interpreter does what the model's does (own work). -/
import Derived.Test.YtmffnlcmklapmaaMxP
namespace Go.Proofs.Ytmffnlcmklapmaa.Mx
open Go
set_option autoImplicit false
set_option linter.unusedVariables false
set_option linter.unusedSimpArgs false
universe u
variable {P : Program}
def EnvOk (P : Program) (E : Env) : Prop := TIs P E.ti ∧ EqsOk P E.eqs ∧ ∀ f S, S ∈ fnsOf E.fns f → Sound P f S
section
variable {mt : Nat → Prop} {g : Gh} {H H' : HF} {w : World} {base : Nat} {fp fp' : FP} {v : SV} {o : Oper} {a : Act} {E : Env} {sl : List SV}
theorem Does.makes {s : Sem Value} (he : execOp a.eval o = (do pure (.value (← s)))) (h : Makes P mt g H' w base v s) : Does P o a w (Post mt g w base H' v) := by
  obtain ⟨V, w', h1, h2⟩ := h
  refine Does.value (V := V) (w' := w') ?_ h2
  rw [he, Sem.run_bind, h1]
  rfl
theorem Does.gives {s : Sem Value} (he : execOp a.eval o = (do pure (.value (← s)))) (M : Mem mt g H w.heap) (h : Gives P g H H' w v s) : Does P o a w (Post mt g w base H' v) := Does.makes he (h.makes M)
theorem Does.just {V : Value} (he : execOp a.eval o = pure (.value V)) (M : Mem mt g H w.heap) (h : SVR g w.heap v V) : Does P o a w (Post mt g w base H v) :=
  Does.value (V := V) (w' := w) (by rw [he]; rfl) (Post.same M h)
theorem Does.unit {s : Sem Unit} (he : execOp a.eval o = (do s; pure .skip)) (h : ∃ w', s.run P w = .ok () w' ∧ Post mt g w base H' v undef w') : Does P o a w (Post mt g w base H' v) := by
  obtain ⟨w', h1, h2⟩ := h
  refine Does.skip (w' := w') ?_ h2
  rw [he, Sem.run_bind, h1]
  rfl
theorem pure_eval {v0 : SV} (h : (MA.pure v0).eval base H fp = some (v, H', fp')) : v = v0 ∧ H' = H := by
  simp only [MA.eval, Option.some.injEq, Prod.mk.injEq] at h
  exact ⟨h.1.symm, h.2.1.symm⟩
theorem parts_R (h : SlR g w.heap sl a) : ∀ (ps : List (Nat × Operand)), All2 (PartR g w.heap) (pairsOf sl ps) (ps.map fun x => (x.1, a.eval x.2))
  | [] => trivial
  | p :: ps => ⟨⟨rfl, rd_SVR h p.2⟩, parts_R h ps⟩
theorem rds_R (h : SlR g w.heap sl a) : ∀ (ps : List Operand), All2 (SVR g w.heap) (ps.map (rd sl)) (ps.map a.eval)
  | [] => trivial
  | p :: ps => ⟨rd_SVR h p, rds_R h ps⟩
theorem argsOf_R {hp : HP} : ∀ {l : List SV} {vs : List Value} {as : List AV}, All2 (SVR g hp) l vs → argsOf l = some as → All2 (AVR g hp) as vs
  | [], [], as, _, h => by simp only [argsOf, Option.some.injEq] at h; subst h; trivial
  | .v x :: l, v :: vs, as, ⟨h1, h2⟩, h => by
    simp only [argsOf] at h
    cases hr : argsOf l with
    | none => rw [hr] at h; cases h
    | some r => rw [hr] at h; simp only [Option.map_some, Option.some.injEq] at h; subst h; exact ⟨h1, argsOf_R h2 hr⟩
  | .tup _ :: l, v :: vs, as, _, h => by simp [argsOf] at h
  | [], _ :: _, _, h, _ => h.elim
  | _ :: _, [], _, h, _ => h.elim
theorem keysOf_R {hp : HP} : ∀ {l : List SV} {vs : List Value} {ns : List Nat}, All2 (SVR g hp) l vs → keysOf l = some ns → All2 (IsPtr g) ns vs
  | [], [], as, _, h => by simp only [keysOf, Option.some.injEq] at h; subst h; trivial
  | x :: l, v :: vs, as, ⟨h1, h2⟩, h => by
    unfold keysOf at h
    split at h
    · rename_i e; cases e
    · rename_i n l' e
      cases e
      cases hr : keysOf l with
      | none => rw [hr] at h; cases h
      | some r =>
        rw [hr] at h; simp only [Option.map_some, Option.some.injEq] at h; subst h
        refine ⟨?_, keysOf_R h2 hr⟩
        obtain ⟨Q, b, q1, q2, q3⟩ := h1
        exact ⟨Q, b, q1, q2, by rw [q3]⟩
    · cases h
  | [], _ :: _, _, h, _ => h.elim
  | _ :: _, [], _, h, _ => h.elim
theorem ptrs_R {hp : HP} : ∀ {ns : List Nat} {vs : List Value}, All2 (IsPtr g) ns vs → All2 (AVR g hp) (ns.map fun n => AV.c (.ptr n 0)) vs
  | [], [], _ => trivial
  | n :: ns, v :: vs, ⟨⟨Q, b, h1, h2, h3⟩, hr⟩ => ⟨⟨Q, b, h1, h2, h3⟩, ptrs_R hr⟩
  | [], _ :: _, h => h.elim
  | _ :: _, [], h => h.elim
theorem call_does (F : ∀ f S, S ∈ fnsOf E.fns f → Sound P f S) (M : Mem mt g H w.heap) (hm : ∀ b, w.heap.size ≤ b → mt b) (hf : ∀ n, base ≤ n → n < base + keys → g.φ n = none) (hsl : SlR g w.heap sl a) {c : Call} {fo : Operand} (hop : o.op = .call c) (hc : c.callee = .value fo)
    {f : Nat} {js : List Nat} {as : List AV} (hfn : rd sl fo = .v (.c (.fn f js))) (has : argsOf (c.args.toList.map (rd sl)) = some as)
    (h : (callM (fnsOf E.fns f) (as ++ js.map fun n => .c (.ptr n 0))).eval base H fp = some (v, H', fp')) : Does P o a w (Post mt g w base H' v) := by
  have h1 := rd_SVR hsl fo
  rw [hfn] at h1
  obtain ⟨us, hus, hR⟩ := h1
  have h2 := All2.append (argsOf_R (rds_R hsl c.args.toList) has) (ptrs_R (hp := w.heap) hR)
  have ex : (execOp a.eval o).run P w = (callFunc f (c.args.toList.map a.eval ++ us).toArray).run P w := by
    unfold execOp
    rw [hop]
    simp only [resolve, hc, hus, Deferred.ofValue, Sem.run_bind, Sem.run_pure, Result.andThen_ok, invoke]
    congr 2
    simp [← List.toArray_appendList] <;> apply Array.ext' <;> simp
  rcases callM_does (f := f) M hm hf h2 (F f) h with ⟨k1, k2⟩ | ⟨V, w', k1, k2⟩
  · exact Does.enter (by rw [ex, k1]) k2
  · exact Does.value (by rw [ex, k1]) k2
theorem opt_R (h : SlR g w.heap sl a) (x : Option Operand) : match x.map (rd sl), x.map a.eval with | none, none => True | some y, some Y => SVR g w.heap y Y | _, _ => False := by
  cases x with
  | none => trivial
  | some x => exact rd_SVR h x
set_option maxHeartbeats 1000000 in
theorem op_does (ok : EnvOk P E) (M : Mem mt g H w.heap) (hm : ∀ b, w.heap.size ≤ b → mt b) (hf : ∀ n, base ≤ n → n < base + keys → g.φ n = none) (hsl : SlR g w.heap sl a)
    (h : (opM E sl o.type o.op).eval base H fp = some (v, H', fp')) : Does P o a w (Post mt g w base H' v) := by
  obtain ⟨T, EQ, F⟩ := ok
  obtain ⟨dst, op, ty, pos, after, guard⟩ := o
  simp only at h
  cases op with
  | move x => obtain ⟨rfl, rfl⟩ := pure_eval (base := base) h; exact Does.just rfl M (rd_SVR hsl x)
  | assign x => obtain ⟨rfl, rfl⟩ := pure_eval (base := base) h; exact Does.just rfl M (rd_SVR hsl x)
  | pick c x y =>
    simp only [opM] at h
    split at h
    · rename_i t hc
      have h1 := rd_SVR hsl c
      rw [hc] at h1
      have h1 : a.eval c = .bool t := h1
      rcases cond_eval (base := base) h with ⟨rfl, h⟩ | ⟨rfl, h⟩
      · obtain ⟨rfl, rfl⟩ := pure_eval (base := base) h
        exact Does.value (V := a.eval x) (w' := w) (by simp [execOp, h1, asBool]) (Post.same M (rd_SVR hsl x))
      · obtain ⟨rfl, rfl⟩ := pure_eval (base := base) h
        exact Does.value (V := a.eval y) (w' := w) (by simp [execOp, h1, asBool]) (Post.same M (rd_SVR hsl y))
    · cases h
  | alloc e =>
    simp only [opM] at h
    split at h
    · rename_i i hi
      have ht := T e i hi
      obtain ⟨z, hz, hrun⟩ := zero_run ht w
      have hzV : All2 (VR g w.heap) i.zero z.cells.toList := by rw [hz]; exact zero_VR g w.heap i.zero ht.zok
      obtain ⟨V, w', k1, k2⟩ := box_does (P := P) (t := e) M hm hf hzV h
      refine Does.makes rfl ⟨V, w', ?_, k2⟩
      rw [← k1]
      unfold Instr.alloc
      rw [Sem.run_bind, hrun]
      rfl
    · cases h
  | box e x =>
    simp only [opM] at h
    split at h
    · rename_i i A hi hA
      cases hfit : fits (avCs A) i.size with
      | false => rw [hfit] at h; cases h
      | true =>
        rw [hfit] at h
        have h1 := rd_SVR hsl x
        rw [hA] at h1
        simp only [fits, Bool.and_eq_true] at hfit
        exact Does.makes rfl (box_does (t := e) M hm hf (avCs_VR h1 hfit.2) h)
    · cases h
  | build t ps =>
    simp only [opM] at h
    split at h
    · rename_i i hi
      cases hagg : i.agg with
      | false => rw [hagg] at h; cases h
      | true =>
        rw [hagg] at h
        simp only at h
        split at h
        · rename_i cs hcs
          obtain ⟨rfl, rfl⟩ := pure_eval (base := base) h
          obtain ⟨V, k1, k2⟩ := build_does T (T t i hi) hagg (parts_R hsl ps.toList) hcs
          refine Does.gives (s := Instr.build t (ps.map fun (i, x) => (i, a.eval x))) rfl M ⟨V, ?_, k2, rfl⟩
          rw [← k1]
          congr 2
          apply Array.ext'
          simp
        · cases h
    · cases h
  | buildSlice t n ps =>
    obtain ⟨i, e, j, et, h1, h2, h3, h4, h5, h6⟩ := elem_eval T h
    simp only at h6
    split at h6
    · rename_i cs hcs
      cases hn : Nat.ble (n * j.size) 16777216 with
      | false => rw [hn] at h6; cases h6
      | true =>
        rw [hn] at h6
        obtain ⟨V, w', k1, k2⟩ := buildSlice_does h2 h3 h4 h5 M hm hf (parts_R hsl ps.toList) hcs hn h6
        refine Does.makes (s := Instr.buildSlice t n (ps.map fun (i, x) => (i, a.eval x))) rfl ⟨V, w', ?_, k2⟩
        rw [← k1]
        congr 2
        apply Array.ext'
        simp
    · cases h6
  | load t x =>
    simp only [opM] at h
    split at h
    · rename_i i hi
      obtain ⟨V, h1, h2, rfl⟩ := load_does (T t i hi) M (rd_SVR hsl x) h
      exact Does.gives rfl M ⟨V, h1, h2, rfl⟩
    · cases h
  | store t x y =>
    simp only [opM] at h
    split at h
    · rename_i i hi
      cases hap : isAptr (rd sl x) with
      | false => rw [hap] at h; exact Does.unit rfl (store_does (T t i hi) M (rd_SVR hsl x) (rd_SVR hsl y) h)
      | true =>
        rw [hap] at h
        have h : ((freezeM (rd sl y)).bind fun y => storeM i (rd sl x) y).eval base H fp = some (v, H', fp') := h
        rw [MA.eval_bind] at h
        cases h1 : (freezeM (rd sl y)).eval base H fp with
        | none => rw [h1] at h; cases h
        | some z =>
          obtain ⟨z, H1, fp1⟩ := z
          rw [h1] at h
          obtain ⟨g1, e1, p1, M1, hz⟩ := freeze_does M (rd_SVR hsl y) h1
          obtain ⟨w', k1, k2⟩ := store_does (T t i hi) M1 (SVR.stab (e1.stab M.ro) _ _ (rd_SVR hsl x)) hz h
          exact Does.unit rfl ⟨w', k1, Post.of_parts' e1 p1 k2⟩
    · cases h
  | nilCheck x =>
    have h : (nilCheckM (rd sl x)).eval base H fp = some (v, H', fp') := h
    have hs : ∀ ad, a.eval x = .pointer (some ad) → execOp a.eval ⟨dst, .nilCheck x, ty, pos, after, guard⟩ = Pure.pure (.value (a.eval x)) := fun ad he => by unfold execOp; simp only [he]
    obtain ⟨V, h1, h2, rfl⟩ := nilCheck_does (P := P) (rd_SVR hsl x) hs h
    exact Does.value h1 (Post.same M h2)
  | binOp op t x y z =>
    have h : (binM E.ti E.eqs op t (rd sl x) (rd sl y)).eval base H fp = some (v, H', fp') := h
    exact Does.gives rfl M (bin_does T EQ (rd_SVR hsl x) (rd_SVR hsl y) x y h)
  | unOp op t x =>
    have h : (unM op (rd sl x)).eval base H fp = some (v, H', fp') := h
    exact Does.gives rfl M (un_does (rd_SVR hsl x) h)
  | convert s d x =>
    simp only [opM] at h
    split at h
    · rename_i i j hi hj
      exact Does.gives rfl M (conv_does T (T s i hi) (T d j hj) M (rd_SVR hsl x) h)
    · cases h
  | makeFunc fn first captured =>
    cases fn with
    | func f =>
      have h : (match first.toList, keysOf (captured.toList.map (rd sl)) with
        | [], some ns => ret (.fn f ns)
        | _, _ => .fail).eval base H fp = some (v, H', fp') := h
      split at h
      · rename_i ns hfi hks
        obtain ⟨rfl, rfl⟩ := ret_eval h
        have e1 : first = #[] := Array.ext' hfi
        subst e1
        refine Does.just (V := .func (.func f) #[] (captured.map a.eval)) (by simp [execOp, Instr.makeFunc]) M ⟨captured.toList.map a.eval, ?_, keysOf_R (rds_R hsl captured.toList) hks⟩
        congr 1
        apply Array.ext'
        simp
      · cases h
    | _ => cases h
  | makeSlice t l c =>
    obtain ⟨i, e, j, et, h1, h2, h3, h4, h5, h6⟩ := elem_eval T h
    exact Does.makes rfl (make_does h2 h3 h4 h5 M hm hf (rd_SVR hsl l) (rd_SVR hsl c) h6)
  | slice t x lo hi mx =>
    cases mx with
    | some _ => cases h
    | none =>
      simp only [opM] at h
      split at h
      · rename_i i hi'
        split at h
        · rename_i e hu
          split at h
          · rename_i j hj
            cases hcut : (shget E.lab 1000000).isSome with
            | false => rw [hcut] at h; exact Does.gives rfl M (slice_does (T t i hi') hu (T e j hj) M (rd_SVR hsl x) (opt_R hsl lo) (opt_R hsl hi) h)
            | true => rw [hcut] at h; exact Does.makes rfl (cut_does (T t i hi') hu (T e j hj) M hf (rd_SVR hsl x) (opt_R hsl lo) (opt_R hsl hi) h)
          · cases h
        · rename_i len e hu
          split at h
          · rename_i j hj
            exact Does.gives rfl M (slicebox_does (T t i hi') hu (T e j hj) (rd_SVR hsl x) (opt_R hsl lo) (opt_R hsl hi) h)
          · cases h
        · cases h
      · cases h
  | fieldAddr s x f =>
    simp only [opM] at h
    split at h
    · rename_i i hi
      split at h
      · rename_i fs hu
        split at h
        · rename_i off t hfld
          split at h
          · rename_i j hj
            cases hs : Nat.beq j.size 0 with
            | true => rw [hs] at h; cases h
            | false => rw [hs] at h; exact Does.gives rfl M (field_does (T s i hi) hu hfld (T t j hj) hs (rd_SVR hsl x) h)
          · cases h
        · cases h
      · cases h
    · cases h
  | field s x f =>
    simp only [opM] at h
    split at h
    · rename_i i hi
      split at h
      · rename_i fs hu
        split at h
        · rename_i off t hfld
          split at h
          · rename_i j cs hj hx
            split at h
            · rename_i l hl
              have h1 := rd_SVR hsl x
              rw [hx] at h1
              exact Does.gives rfl M (fieldv_does (T s i hi) hu hfld (T t j hj) h1 hl h)
            · cases h
          · cases h
        · cases h
      · cases h
    · cases h
  | indexAddr t x y =>
    simp only [opM] at h
    split at h
    · rename_i q hq
      split at h
      · rename_i e hu
        split at h
        · rename_i j hj
          exact Does.gives rfl M (idx_does (T t q hq) (T e j hj) (.inl hu) M (rd_SVR hsl x) (rd_SVR hsl y) h)
        · cases h
      · rename_i n e hu
        split at h
        · rename_i j hj
          exact Does.gives rfl M (idx_does (T t q hq) (T e j hj) (.inr ⟨n, hu⟩) M (rd_SVR hsl x) (rd_SVR hsl y) h)
        · cases h
      · cases h
    · cases h
  | index t x y =>
    simp only [opM] at h
    split at h
    · rename_i q hq
      split at h
      · rename_i n e hu
        split at h
        · rename_i j hj
          exact Does.gives rfl M (idxv_does (T t q hq) (T e j hj) (.inr ⟨n, hu⟩) (rd_SVR hsl x) (rd_SVR hsl y) h)
        · cases h
      · rename_i hu
        exact Does.gives rfl M (idxv_does (e := t) (T t q hq) (T t q hq) (.inl hu) (rd_SVR hsl x) (rd_SVR hsl y) h)
      · cases h
    · cases h
  | extract t i =>
    have h : (tupM i (rd sl t)).eval base H fp = some (v, H', fp') := h
    exact Does.gives rfl M (tup_does (rd_SVR hsl t) h)
  | call c =>
    obtain ⟨callee, args, argTypes⟩ := c
    cases callee with
    | value fo =>
      simp only [opM] at h
      split at h
      · rename_i f js as hfn has
        exact call_does F M hm hf hsl (c := ⟨.value fo, args, argTypes⟩) rfl rfl hfn has h
      · cases h
    | invoke r n => cases h
    | builtin b =>
      have hb : execOp a.eval ⟨dst, .call ⟨.builtin b, args, argTypes⟩, ty, pos, after, guard⟩ = builtin b argTypes ty (args.map fun | .const _ => true | _ => false) (args.map a.eval) := rfl
      have hargs : args.map a.eval = (args.toList.map a.eval).toArray := by apply Array.ext'; simp
      cases b with
      | len =>
        simp only [opM] at h
        split at h
        · rename_i t x ht hx
          split at h
          · rename_i i hi
            have e1 : argTypes = #[t] := Array.ext' ht
            have e2 : args = #[x] := Array.ext' hx
            subst e1 e2
            have e3 : (#[x] : Array Operand).map a.eval = #[a.eval x] := by simp
            rw [e3] at hb
            exact Does.gives hb M (len_does (T t i hi) M (rd_SVR hsl x) h)
          · cases h
        · cases h
      | cap =>
        simp only [opM] at h
        split at h
        · rename_i t x ht hx
          split at h
          · rename_i i hi
            split at h
            · rename_i e hu
              have e1 : argTypes = #[t] := Array.ext' ht
              have e2 : args = #[x] := Array.ext' hx
              subst e1 e2
              have e3 : (#[x] : Array Operand).map a.eval = #[a.eval x] := by simp
              rw [e3] at hb
              exact Does.gives hb M (cap_does (T t i hi) hu (rd_SVR hsl x) h)
            · cases h
          · cases h
        · cases h
      | append =>
        simp only [opM] at h
        split at h
        · rename_i t t' x y ht hx
          cases htt : Nat.beq t t' with
          | false =>
            rw [htt] at h
            have e1 : argTypes = #[t, t'] := Array.ext' ht
            have e2 : args = #[x, y] := Array.ext' hx
            subst e1 e2
            have e3 : (#[x, y] : Array Operand).map a.eval = #[a.eval x, a.eval y] := by simp
            rw [e3] at hb
            simp only at h
            split at h
            · rename_i i' hi'
              split at h
              · rename_i hu'
                obtain ⟨i, e, j, et, h1, h2, h3, h4, h5, h6⟩ := elem_eval T h
                exact Does.makes hb (appendMake_does h2 h3 (T t' i' hi') hu' h4 h5 M hm hf (rd_SVR hsl x) (rd_SVR hsl y) h6)
              · cases h
            · cases h
          | true =>
            rw [htt] at h
            obtain rfl := beq_eq htt
            have e1 : argTypes = #[t, t] := Array.ext' ht
            have e2 : args = #[x, y] := Array.ext' hx
            subst e1 e2
            have e3 : (#[x, y] : Array Operand).map a.eval = #[a.eval x, a.eval y] := by simp
            rw [e3] at hb
            obtain ⟨i, e, j, et, h1, h2, h3, h4, h5, h6⟩ := elem_eval T h
            exact Does.makes hb (append_does h2 h3 h4 h5 M hm hf (rd_SVR hsl x) (rd_SVR hsl y) h6)
        · cases h
      | min => exact Does.gives (hb.trans (by rw [hargs]; rfl)) M (min_does (ts := argTypes) (ty := ty) (rds_R hsl args.toList) h)
      | max => exact Does.gives (hb.trans (by rw [hargs]; rfl)) M (max_does (ts := argTypes) (ty := ty) (rds_R hsl args.toList) h)
      | complex => exact Does.gives (hb.trans (by rw [hargs]; rfl)) M (cpx_does (ts := argTypes) (ty := ty) (rds_R hsl args.toList) h)
      | real => exact Does.gives (hb.trans (by rw [hargs]; rfl)) M (real_does (ts := argTypes) (ty := ty) (rds_R hsl args.toList) h)
      | imag => exact Does.gives (hb.trans (by rw [hargs]; rfl)) M (imag_does (ts := argTypes) (ty := ty) (rds_R hsl args.toList) h)
      | _ => cases h
  | _ => cases h
end
end Go.Proofs.Ytmffnlcmklapmaa.Mx

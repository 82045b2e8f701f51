/- A function that the interpreter runs is as its shapes tell (own work). -/
import Derived.Test.YtmffnlcmklapmaaMxT
namespace Go.Proofs.Ytmffnlcmklapmaa.Mx
open Go
set_option autoImplicit false
set_option linter.unusedVariables false
set_option linter.unusedSimpArgs false
universe u
variable {P : Program}
def resRun (tmps : Array Value) : ResultVar → Sem Value
  | .tmp t => pure (tmps.getD t undef)
  | .cell a t => do loadVar t (← asAddr (tmps.getD a undef))
section
variable {mt : Nat → Prop} {g0 : Gh} {w0 : World} {ds : List Deferred} {N : Nat} {E : Env}
theorem res_does (T : TIs P E.ti) {s : St} {a : Act} {w : World} {g : Gh} (A : After mt g0 w0 (hget s.heap) s.slots s.next ds N a w g) {rv : ResultVar} {av : AV} (h : resAV s E.ti rv = some av) : ∃ V, (resRun a.tmps rv).run P w = .ok V w ∧ AVR g w.heap av V := by
  cases rv with
  | tmp t =>
    refine ⟨_, rfl, ?_⟩
    have h1 := A.slr t
    have h : svA (getS s.slots t) = some av := h
    cases hq : getS s.slots t with
    | v b => rw [hq] at h h1; simp only [svA, Option.some.injEq] at h; rw [h] at h1; exact h1
    | tup _ => rw [hq] at h; cases h
  | cell b t =>
    simp only [resAV] at h
    split at h
    · rename_i n off i hs hi
      split at h
      · rename_i cs ho
        split at h
        · rename_i l hl
          have h1 := A.slr b
          rw [hs] at h1
          have hev : (loadM i (.v (.c (.ptr n off)))).eval 0 (hget s.heap) ⟨[], []⟩ = some (.v av, hget s.heap, ⟨[n], []⟩) := by
            simp only [loadM, MA.eval, ho, hl, h, svO]
          obtain ⟨V, k1, k2, _⟩ := load_does (T t i hi) A.mem h1 hev
          refine ⟨V, ?_, k2⟩
          obtain ⟨Q, bl, q1, q2, q3⟩ := h1
          rw [← k1, q3]
          simp only [resRun, q3, asAddr, Instr.loadAt, Instr.sureAddr]
        · cases h
      · cases h
    · cases h
theorem results_does (T : TIs P E.ti) {s : St} {a : Act} {w : World} {g : Gh} (A : After mt g0 w0 (hget s.heap) s.slots s.next ds N a w g) : ∀ (rs : List ResultVar) (avs : List AV), rs.map (resAV s E.ti) = avs.map some → ∃ Vs, (rs.mapM (resRun a.tmps)).run P w = .ok Vs w ∧ All2 (AVR g w.heap) avs Vs
  | [], [], _ => ⟨[], rfl, trivial⟩
  | rv :: rs, av :: avs, h => by
    simp only [List.map_cons, List.cons.injEq] at h
    obtain ⟨V, h1, h2⟩ := res_does T A h.1
    obtain ⟨Vs, k1, k2⟩ := results_does T A rs avs h.2
    exact ⟨V :: Vs, by simp only [List.mapM_cons, Sem.run_bind, h1, Result.andThen_ok, k1, Sem.run_pure], h2, k2⟩
  | [], _ :: _, h => by cases h
  | _ :: _, [], h => by cases h
theorem seq_all {h : RH} {d : DS} {l : List (Option AV)} : ∀ (ss : List (Nat × AF)) (as : List (Nat × AV)) (i : Nat), seqFrom ss i l.length = true → All2 (RelS h d (nthO l)) ss as → ∃ avs : List AV, l.drop i = avs.map some ∧ All2 (RelA h d) (as.map (·.2)) avs
  | [], [], i, hs, _ => by
    have := beq_eq hs
    exact ⟨[], by rw [this]; simp, trivial⟩
  | (j, f) :: ss, (j', a) :: as, i, hs, ⟨h1, h2⟩ => by
    simp only [seqFrom, Bool.and_eq_true] at hs
    obtain rfl := beq_eq hs.1
    obtain ⟨avs, h3, h4⟩ := seq_all ss as (j + 1) hs.2 h2
    obtain ⟨h5, a', h6, h7⟩ := h1
    simp only at h5 h6 h7
    rw [← h5] at h6
    have : ∀ (l : List (Option AV)) (j : Nat) (a' : AV), nthO l j = some a' → l.drop j = some a' :: l.drop (j + 1) := by
      intro l
      induction l with
      | nil => intro j a' h; cases h
      | cons x l ih =>
        intro j a' h
        cases j with
        | zero => simp only [nthO] at h; simp [h]
        | succ j => simpa using ih j a' h
    exact ⟨a' :: avs, by rw [this l j a' h6, h3]; rfl, h7, h4⟩
  | [], _ :: _, _, _, h => h.elim
  | _ :: _, [], _, _, h => h.elim
theorem decOuts_spec {R : Type} {m : List Nat} {h : RH} {gA : Nat → Option AV} : ∀ (ss : List Shape) (K : sumX ss → R) (r : R), decOuts m h gA ss K = some r → ∃ rr, r = K rr ∧ ∃ so, so ∈ ss ∧ ∃ x d as os, Read so m h gA x d as os ∧
    ∀ Q : Shape → List (Nat × AV) → Heap → Prop, Q so as os → Outs ss rr Q
  | [], K, r, hk => by cases hk
  | [so], K, r, hk => by
    obtain ⟨x, d, as, os, h1, h2⟩ := Shape.decK_spec (show so.decK m h gA (fun x _ => some (K x)) = some r from hk)
    simp only [Option.some.injEq] at h1
    refine ⟨x, h1.symm, so, List.mem_singleton.2 rfl, x, d, as, os, h2, fun Q hQ => ?_⟩
    obtain ⟨as', os', L⟩ := Shape.laid so x
    obtain ⟨rfl, rfl⟩ := L.same h2.enc0
    exact ⟨_, _, L, hQ⟩
  | so :: t :: ss, K, r, hk => by
    have hk : (match so.decK m h gA (fun x _ => some (K (Sum.inl x))) with
      | some y => some y
      | none => decOuts m h gA (t :: ss) fun y => K (Sum.inr y)) = some r := hk
    split at hk
    · rename_i y hy
      cases hk
      obtain ⟨x, d, as, os, h1, h2⟩ := Shape.decK_spec hy
      simp only [Option.some.injEq] at h1
      refine ⟨Sum.inl x, h1.symm, so, List.mem_cons_self, x, d, as, os, h2, fun Q hQ => ?_⟩
      obtain ⟨as', os', L⟩ := Shape.laid so x
      obtain ⟨rfl, rfl⟩ := L.same h2.enc0
      exact ⟨_, _, L, hQ⟩
    · obtain ⟨rr, h1, so', h2, x, d, as, os, h3, h4⟩ := decOuts_spec (t :: ss) (fun y => K (Sum.inr y)) r hk
      exact ⟨Sum.inr rr, h1, so', List.mem_cons_of_mem _ h2, x, d, as, os, h3, h4⟩
theorem fin_does (T : TIs P E.ti) (hg0 : ∀ n, ¬ n ∈ E.keep → g0.φ n = none) {fn : Func} {outs : List Shape} (hwf : outs.all Shape.wf = true) {e : Ex} {s : St} {r : sumX outs} (h : fin E fn outs e s = some r) {a : Act} {w : World} (hI : Inv mt g0 w0 ds N s a w) :
    (exitOf e = .normal ∨ exitOf e = .ret) ∧ a.defers = ds ∧ ∃ V, (results fn a.tmps).run P w = .ok V w ∧ Outs outs r fun _ as os => ∃ g', Ext mt g0 w0 g' w ∧ Mem mt g' (hget os) w.heap ∧ SVR g' w.heap (mkRes as) V := by
  have main : (Bool.casesOn (outs.all fun o => seqFrom o.sl 0 fn.results.size) none (decOuts E.keep (hget s.heap) (nthO (fn.results.toList.map (resAV s E.ti))) outs id) : Option (sumX outs)) = some r →
      a.defers = ds ∧ ∃ V, (results fn a.tmps).run P w = .ok V w ∧ Outs outs r fun _ as os => ∃ g', Ext mt g0 w0 g' w ∧ Mem mt g' (hget os) w.heap ∧ SVR g' w.heap (mkRes as) V := fun h => by
    obtain ⟨g, A⟩ := hI
    refine ⟨A.dfs.1, ?_⟩
    cases hsq : (outs.all fun o => seqFrom o.sl 0 fn.results.size) with
    | false => rw [hsq] at h; cases h
    | true =>
      rw [hsq] at h
      obtain ⟨rr, h1, so, h2, x, d, as, os, R, hO⟩ := decOuts_spec outs id r h
      obtain rfl : r = rr := h1
      have hs := List.all_eq_true.1 hsq so h2
      obtain ⟨avs, h3, h4⟩ := seq_all (l := fn.results.toList.map (resAV s E.ti)) so.sl as 0 (by simpa using hs) R.sl
      rw [List.drop_zero] at h3
      obtain ⟨Vs, h5, h6⟩ := results_does T A _ avs h3
      have hVs : All2 (AVR (gE so d g) w.heap) (as.map (·.2)) Vs := All2.comp (R := RelA (hget s.heap) d) (S := AVR g w.heap) (T := AVR (gE so d g) w.heap) (fun _ _ _ p q => RelA.AVR A.mem p q) h4 h6
      have hrun : (fn.results.mapM (resRun a.tmps)).run P w = .ok Vs.toArray w := by
        rw [← Array.toArray_toList (xs := fn.results), List.mapM_toArray, Sem.run_map, h5]
        rfl
      have hres : results fn a.tmps = (do let vs ← fn.results.mapM (resRun a.tmps); pure (if h : vs.size = 1 then vs[0] else .tuple vs)) := by
        unfold results
        congr 1
      refine ⟨_, by rw [hres, Sem.run_bind, hrun]; rfl, hO _ ⟨gE so d g, R.ext A.ext A.mem hg0, R.mem A.mem (List.all_eq_true.1 hwf so h2) fun j k o Q b h1 h2 h3 h4 h5 => (A.mem.own k o Q b h2 h3 h4 h5).1, ?_⟩⟩
      match as, Vs, hVs with
      | [], [], _ => exact ⟨[], rfl, trivial⟩
      | [a1], [v1], hv => exact hv.1
      | a1 :: a2 :: r1, v1 :: v2 :: vs, hv =>
        refine ⟨v1 :: v2 :: vs, ?_, hv⟩
        rw [dif_neg]
        simp
      | [], _ :: _, hv => exact hv.elim
      | [_], [], hv => exact hv.elim
      | [_], _ :: _ :: _, hv => exact hv.2.elim
      | _ :: _ :: _, [], hv => exact hv.elim
      | _ :: _ :: _, [_], hv => exact hv.2.elim
  cases e with
  | norm => exact ⟨.inl rfl, main h⟩
  | ret => exact ⟨.inr rfl, main h⟩
  | exit i => cases h
  | goto i => cases h
end
/-- What a run of the interpreter comes to, the function does. -/
theorem sound_of_run {f : Nat} {fn : Func} {c : Code} {S : FnSpec} (Ev : S.ins.X → Env) (hf : P.funcs[f]? = some fn) (hb : fn.body = some c) (hname : (fn.name == "runtime.NumGoroutine") = false) (hord : P.follows .mixedOrders = true)
    (ok : ∀ x, EnvOk P (Ev x)) (hkeep : ∀ x, (Ev x).keep = S.keep) (wfi : S.ins.wf = true) (wfo : S.outs.all Shape.wf = true) (hrun : ∀ x r, S.f x = some r → runFn (Ev x) fn c S x = some r) : Sound P f S := by
  refine ⟨wfi, wfo, fun x r hr mt g w vs as os L M hmt hg hargs => .inl ⟨?_, ?_⟩⟩
  · have hbn : fn.body.isNone = false := by rw [hb]; rfl
    simp only [callFunc, Sem.run_bind, run_program, Result.andThen_ok, hf, hname, hbn, Bool.false_eq_true, if_false, Sem.run_pure]
  · have h1 := hrun x r hr
    unfold runFn start at h1
    have hk0 : ∀ n, ¬ n ∈ (Ev x).keep → (gK S.keep g).φ n = none := fun n hn => by
      rw [hkeep x] at hn
      show (if n ∈ S.keep then g.φ n else none) = none
      rw [if_neg hn]
    have e0 : Ext mt (gK S.keep g) w g w := ⟨rfl, rfl, rfl, Nat.le_refl _, fun _ _ _ => rfl, fun _ h => h, fun _ h => .inl h, fun n Q h => by
      have h : (if n ∈ S.keep then g.φ n else none) = some Q := h
      split at h
      · exact h
      · cases h⟩
    rw [L.enc0, laySl_eq] at h1
    refine calls_of_wp hf hb ((exec_does (E := Ev x) (mt := mt) (g0 := gK S.keep g) (w0 := w) (ds := []) (N := (vs ++ Array.replicate (fn.ntmps - vs.size) undef).size) (ok x) hord hmt hk0 c).1 _ _ r h1 _ (fun e s' hk a w' hI => ?_) _ _ ⟨g, e0, M, ?_, ?_, hg, rfl, rfl⟩)
    · obtain ⟨h2, h3, V, h4, h5⟩ := fin_does (ok x).1 hk0 wfo hk hI
      rcases h2 with h2 | h2
      · rw [h2]; exact ⟨h3, V, h4, V, rfl, h5⟩
      · rw [h2]; exact ⟨h3, V, h4, V, rfl, h5⟩
    · refine layS_R as _ (fun i y hi => ?_) (fun t => by rw [deads_get]; trivial)
      have h2 := hargs i y hi
      have : (vs ++ Array.replicate (fn.ntmps - vs.size) undef).getD i undef = vs.getD i undef := by
        simp only [Array.getD_eq_getD_getElem?, Array.getElem?_append]
        split
        · rfl
        · rename_i hlt
          rw [Array.getElem?_eq_none (xs := vs) (Nat.not_lt.1 hlt), Array.getElem?_replicate]
          split <;> rfl
      rw [this]
      exact h2
    · show (layS as (deads fn.ntmps)).length ≤ _
      rw [layS_len, deads_len]
      simp
      omega
end Go.Proofs.Ytmffnlcmklapmaa.Mx
namespace Go.Proofs.Ytmffnlcmklapmaa.Mx
open Go
variable {P : Program}
theorem FnsOk.nil : ∀ f S, S ∈ fnsOf [] f → Sound P f S := fun f S h => by cases h
theorem FnsOk.cons {k : Nat} {T : FnSpec} {l : List (Nat × FnSpec)} (h : Sound P k T) (hl : ∀ f S, S ∈ fnsOf l f → Sound P f S) : ∀ f S, S ∈ fnsOf ((k, T) :: l) f → Sound P f S := fun f S hS => by
  by_cases e : k = f
  · subst e
    simp only [fnsOf, beq_self, List.mem_cons] at hS
    rcases hS with rfl | hS
    · exact h
    · exact hl k S hS
  · simp only [fnsOf, beq_ne e] at hS
    exact hl f S hS
end Go.Proofs.Ytmffnlcmklapmaa.Mx

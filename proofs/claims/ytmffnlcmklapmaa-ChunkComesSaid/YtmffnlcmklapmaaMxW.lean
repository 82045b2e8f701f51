/- What slices.Clone does: a row of one's own, with the elements that it was asked for (own work). -/
import Derived.Test.YtmffnlcmklapmaaMxU
namespace Go.Proofs.Ytmffnlcmklapmaa.Mx
open Go
set_option autoImplicit false
set_option linter.unusedVariables false
set_option linter.unusedSimpArgs false
def cloneOps (t u : Nat) : Array Oper :=
  #[{ dst := some 3, op := .move (.tmp 0), type := t, pos := "slices.go:357", after := #[], guard := none },
    { dst := some 4, op := .binOp .eql t (.tmp 3) (.const (.slice none 0 0)) t, type := u, pos := "slices.go:357", after := #[{ on := 0, ground := .data }], guard := none }]
def cloneIf (t : Nat) : Code :=
  .cond (.tmp 4) (.seq (.region 2 #[{ dst := some 2, op := .assign (.const (.slice none 0 0)), type := t, pos := "slices.go:358", after := #[], guard := none }] false) .ret) .skip
def cloneEnd (t : Nat) : Code :=
  .seq (.region 3
    #[{ dst := some 5, op := .buildSlice t 0 #[], type := t, pos := "slices.go:362", after := #[], guard := none },
      { dst := some 6, op := .move (.tmp 0), type := t, pos := "slices.go:362", after := #[], guard := none },
      { dst := some 7, op := .call { callee := .builtin .append, args := #[.tmp 5, .tmp 6], argTypes := #[t, t] }, type := t, pos := "slices.go:362",
        after := #[{ on := 0, ground := .data }, { on := 1, ground := .data }], guard := none },
      { dst := some 2, op := .assign (.tmp 7), type := t, pos := "slices.go:362",
        after := #[{ on := 2, ground := .data }, { on := 2, ground := .chain }, { on := 0, ground := .phase }, { on := 1, ground := .phase }, { on := 2, ground := .phase }], guard := none }] false) .ret
def cloneStart (t : Nat) : Code := .region 0 #[{ dst := some 2, op := .assign (.const (.slice none 0 0)), type := t, pos := "slices.go:355", after := #[], guard := none }] false
def cloneCode (t u : Nat) : Code := .seq (cloneStart t) (.seq (.seq (.region 1 (cloneOps t u) false) (cloneIf t)) (cloneEnd t))
def cloneIns (e : Ty) : Shape := ⟨[(0, .c (.row e))], []⟩
def cloneOuts (e : Ty) : List Shape := [⟨[(0, .c (.own 0))], [(0, .arr e)]⟩]
def cloneF (e : Ty) (bytes : Nat) (l : List e.T) : Option (List e.T × Unit) := bif decide (([] : List e.T).length + l.length ≤ limit bytes) then some ([] ++ l, ()) else none
def cloneSt (e : Ty) (l : List e.T) (b : Bool) : St := ⟨[.v (.c (.row e l)), .dead, .v (.c .nils), .v (.c (.row e l)), .v (.c (.bool b)), .dead, .dead, .dead], [], 48⟩
noncomputable def cloneK {A : Type} (E : Env) (t : Nat) (K : Ex → St → Option A) (e : Ex) (s : St) : Option A :=
  match e with
  | .norm => exec E (cloneEnd t) none s K
  | .exit i => K (.exit i) s
  | .goto i => K (.goto i) s
  | .ret => K .ret s
variable {P : Program}
theorem eqIn_slice {t e : Nat} (hd : P.underlying t = some (.slice e)) (A : Option Addr) (n c : Nat) (d : Nat) (w : World) : (Op.equalIn (d + 1) t (.slice A n c) (.slice none 0 0)).run P w = .ok A.isNone w := by
  cases A <;> simp [Op.equalIn, run_underlying hd]
theorem clone_sound {f : Nat} {fn : Func} {t u q : Nat} {e : Ty} {bytes : Nat} {i : TI} (E : Env) (hf : P.funcs[f]? = some fn) (hb : fn.body = some (cloneCode t u)) (hname : (fn.name == "runtime.NumGoroutine") = false) (hord : P.follows .mixedOrders = true) (hnt : fn.ntmps = 8)
    (ok : EnvOk P E) (hkeep : E.keep = []) (hi : tget E.ti t = some i) (hq : i.und = .slice q)
    (h0 : ∀ (l : List e.T) {A : Type} (K : Ex → St → Option A), exec E (cloneStart t) none ⟨[.v (.c (.row e l)), .dead, .dead, .dead, .dead, .dead, .dead, .dead], [], 0⟩ K = K .norm ⟨[.v (.c (.row e l)), .dead, .v (.c .nils), .dead, .dead, .dead, .dead, .dead], [], 16⟩)
    (hT : exec E (cloneIf t) none (cloneSt e [] true) (cloneK E t (fin E fn (cloneOuts e))) = some ([], ()))
    (hF : ∀ l, exec E (cloneIf t) none (cloneSt e l false) (cloneK E t (fin E fn (cloneOuts e))) = cloneF e bytes l) :
    Sound P f ⟨cloneIns e, cloneOuts e, [], fun x => cloneF e bytes x.1⟩ := by
  refine ⟨rfl, rfl, fun x r hr mt g w vs as os L M hmt hg hargs => .inl ⟨?_, ?_⟩⟩
  · have hbn : fn.body.isNone = false := by rw [hb]; rfl
    simp only [callFunc, Sem.run_bind, run_program, Result.andThen_ok, hf, hname, hbn, Bool.false_eq_true, if_false, Sem.run_pure]
  · obtain ⟨rfl, rfl⟩ := L.same (as' := [(0, .c (.row e x.1))]) (os' := []) fun K => rfl
    obtain ⟨d, hd, hu⟩ := und_run (ok.1 t i hi)
    rw [hq] at hu
    have hd' : ∃ e', P.underlying t = some (.slice e') := by cases d <;> first | (cases hu; done) | exact ⟨_, hd⟩
    obtain ⟨e', hd'⟩ := hd'
    have hk0 : ∀ n, ¬ n ∈ E.keep → (gK [] g).φ n = none := fun n _ => by
      show (if n ∈ ([] : List Nat) then g.φ n else none) = none
      rw [if_neg (List.not_mem_nil)]
    have e0 : Ext mt (gK [] g) w g w := ⟨rfl, rfl, rfl, Nat.le_refl _, fun _ _ _ => rfl, fun _ h => h, fun _ h => .inl h, fun n Q h => by
      have h : (if n ∈ ([] : List Nat) then g.φ n else none) = some Q := h
      rw [if_neg (List.not_mem_nil)] at h; cases h⟩
    have hA0 := hargs 0 _ (List.mem_singleton.2 rfl)
    obtain ⟨Ad, cp, hV, hcp, hrow⟩ := (hA0 : VR g w.heap (.row e x.1) _)
    simp only [List.cons.injEq, and_true] at hV
    have hlast : ∀ (ex : Ex) (s' : St), fin E fn (cloneOuts e) ex s' = some r → ∀ a w', Inv mt (gK [] g) w [] (vs ++ Array.replicate (fn.ntmps - vs.size) undef).size s' a w' →
        bodyPost P fn (fun ed w2 => ∃ V, ed = .returned V ∧ Outs (cloneOuts e) r fun _ as' os' => ∃ g', Ext mt (gK [] g) w g' w2 ∧ Mem mt g' (hget os') w2.heap ∧ SVR g' w2.heap (mkRes as') V) (exitOf ex) a w' := fun ex s' hk a w' hI => by
      obtain ⟨h2, h3, V, h4, h5⟩ := fin_does ok.1 hk0 (outs := cloneOuts e) rfl hk hI
      rcases h2 with h2 | h2
      · rw [h2]; exact ⟨h3, V, h4, V, rfl, h5⟩
      · rw [h2]; exact ⟨h3, V, h4, V, rfl, h5⟩
    refine calls_of_wp hf hb ?_
    have hI0 : Inv mt (gK [] g) w [] (vs ++ Array.replicate (fn.ntmps - vs.size) undef).size ⟨[.v (.c (.row e x.1)), .dead, .dead, .dead, .dead, .dead, .dead, .dead], [], 0⟩ { tmps := vs ++ Array.replicate (fn.ntmps - vs.size) undef, defers := [] } w := by
      refine ⟨g, e0, M, ?_, ?_, hg, rfl, rfl⟩
      · have := layS_R (g := g) (hp := w.heap) (a := { tmps := vs ++ Array.replicate (fn.ntmps - vs.size) undef, defers := [] }) [(0, .c (.row e x.1))] (deads 8) (fun i y hi => ?_) (fun t => by rw [deads_get]; trivial)
        · exact this
        · have h2 := hargs i y hi
          have : (vs ++ Array.replicate (fn.ntmps - vs.size) undef).getD i undef = vs.getD i undef := by
            simp only [Array.getD_eq_getD_getElem?, Array.getElem?_append]
            split
            · rfl
            · rename_i hlt
              rw [Array.getElem?_eq_none (xs := vs) (Nat.not_lt.1 hlt), Array.getElem?_replicate]
              split <;> rfl
          rw [this]
          exact h2
      · show 8 ≤ _
        simp [hnt]
        omega
    refine wp_seq ?_
    obtain ⟨s1, h1, hw1⟩ := region_does (mt := mt) (g0 := gK [] g) (w0 := w) (ds := []) (N := (vs ++ Array.replicate (fn.ntmps - vs.size) undef).size) ok hord hmt (h0 x.1 fun _ s => some s)
    cases h1
    refine hw1 _ (fun a w' hI => ?_) _ _ hI0
    refine wp_seq (wp_seq (wp_region ?_))
    obtain ⟨g1, A⟩ := hI
    show wpOps P (cloneOps t u) _ [0, 1] a w'
    rw [wpOps_cons]
    refine step_wp (base := 16) ok A.mem (grown hmt A.ext) A.slr A.len (fun n h _ => A.nx n h) (i := 0) rfl (v := .v (.c (.row e x.1))) (fp := ⟨[], []⟩) rfl fun V w2 g2 e2 hφ2 M2 sl2 => ?_
    rw [wpOps_cons]
    have hV3 := sl2 3
    obtain ⟨A3, c3, hV3, hc3, hrow3⟩ := (hV3 : VR g2 w2.heap (.row e x.1) _)
    simp only [List.cons.injEq, and_true] at hV3
    have hdoes : Does P ⟨some 4, .binOp .eql t (.tmp 3) (.const (.slice none 0 0)) t, u, "slices.go:357", #[{ on := 0, ground := .data }], none⟩ (a.put (some 3) V) w2 (Post mt g2 w2 32 (hget []) (.v (.c (.bool A3.isNone)))) := by
      refine Does.gives rfl M2 ?_
      have hx : (a.put (some 3) V).eval (.tmp 3) = .slice A3 x.1.length c3 := hV3
      refine ⟨.bool A3.isNone, ?_, rfl, rfl⟩
      rw [hx]
      have h2 : (Op.equal t (.slice A3 x.1.length c3) (.slice none 0 0)).run P w2 = .ok A3.isNone w2 := eqIn_slice hd' A3 _ _ 9999 w2
      have h3 : (eqGuard .eql t (.tmp 3) (.const (.slice none 0 0)) (.slice A3 x.1.length c3) (.slice none 0 0)).run P w2 = .ok () w2 := eqGuard_one _ _ _ _ _ _ (fun _ => by simp) (by simp) w2
      show (do eqGuard .eql t (.tmp 3) (.const (.slice none 0 0)) (.slice A3 x.1.length c3) (.slice none 0 0); binOp .eql t (.slice A3 x.1.length c3) (.slice none 0 0) : Sem Value).run P w2 = _
      rw [Sem.run_bind, h3]
      show (do pure (.bool (← Op.equal t (.slice A3 x.1.length c3) (.slice none 0 0))) : Sem Value).run P w2 = _
      rw [Sem.run_bind, h2]
      rfl
    show wpOp P (cloneOps t u) _ 1 _ _ _
    unfold wpOp
    show (if Region.wanted _ (yielded (cloneOps t u) (a.put (some 3) V).tmps) = true then _ else _)
    rw [if_pos (by rfl)]
    refine .inl (hdoes _ _ fun V4 w4 ⟨g4, e4, hφ4, M4, hv4⟩ => ?_)
    have hl2 : (putS [.v (.c (.row e x.1)), .dead, .v (.c .nils), .dead, .dead, .dead, .dead, .dead] (some 3) (.v (.c (.row e x.1)))).length ≤ (a.put (some 3) V).tmps.size := by
      rw [put_size]
      exact A.len
    have hI4 : Inv mt (gK [] g) w [] (vs ++ Array.replicate (fn.ntmps - vs.size) undef).size (cloneSt e x.1 A3.isNone) ((a.put (some 3) V).put (some 4) V4) w4 := by
      refine ⟨g4, (A.ext.trans e2).trans e4, M4, (SlR.put (sl2.stab (e4.stab M2.ro)) hl2 hv4 (some 4)), ?_, fun n hn => ?_, ?_, ?_⟩
      · rw [put_size]; exact hl2
      · have hn : 48 ≤ n := hn
        rw [hφ4 n (by simp only [keys]; omega), hφ2 n (by simp only [keys]; omega)]
        exact A.nx n (by show 16 ≤ n; omega)
      · rw [put_defers', put_defers']; exact A.dfs.1
      · rw [put_size, put_size]; exact A.dfs.2
    have hend : exec E (cloneIf t) none (cloneSt e x.1 A3.isNone) (cloneK E t (fin E fn (cloneOuts e))) = some r := by
      have hr : cloneF e bytes x.1 = some r := hr
      cases hA3 : A3 with
      | some _ => exact (hF x.1).trans hr
      | none =>
        have hnil : x.1 = [] := by
          rcases hx : x.1 with _ | ⟨y, ys⟩
          · rfl
          · obtain ⟨b, o, cs, t', fz, us, rest, hA, _⟩ := hrow3 (by rw [hx]; simp)
            rw [hA3] at hA
            cases hA
        rw [hnil] at hr ⊢
        have : cloneF e bytes [] = some ([], ()) := by
          unfold cloneF
          rw [decide_eq_true (by simp)]
          rfl
        rw [this] at hr
        cases hr
        exact hT
    refine (exec_does (mt := mt) (g0 := gK [] g) (w0 := w) (ds := []) (N := (vs ++ Array.replicate (fn.ntmps - vs.size) undef).size) ok hord hmt hk0 (cloneIf t)).1 _ _ r hend _ (fun e' s' hk a w' hI => ?_) _ _ hI4
    cases e' with
    | norm => exact (exec_does (mt := mt) (g0 := gK [] g) (w0 := w) (ds := []) (N := (vs ++ Array.replicate (fn.ntmps - vs.size) undef).size) ok hord hmt hk0 (cloneEnd t)).1 _ _ r hk _ hlast a w' hI
    | exit i => exact hlast (.exit i) s' hk a w' hI
    | goto i => exact hlast (.goto i) s' hk a w' hI
    | ret => exact hlast .ret s' hk a w' hI
end Go.Proofs.Ytmffnlcmklapmaa.Mx

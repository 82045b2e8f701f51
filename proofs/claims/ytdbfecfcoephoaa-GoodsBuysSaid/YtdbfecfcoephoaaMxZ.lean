/- What a function with a map does that is asked and filled (goods.Check; own work). -/
import Derived.Test.YtdbfecfcoephoaaMxY
import Derived.WideKeyRuns
namespace Go.Proofs.Ytdbfecfcoephoaa.Mx
open Go
set_option autoImplicit false
set_option linter.unusedVariables false
set_option linter.unusedSimpArgs false
variable {P : Program}
/-! ### parts of regions -/
def partRun (E : Env) (ops : Array Oper) (os : List Oper) (s : List SV × Heap) (base : Nat) : Option (List SV × Heap) := runOps E ops.toList os s.1 s.2 base [] fun sl h _ => some (sl, h)
def Kept (ts : List Nat) (a a' : Act) : Prop := ∀ t, t ∈ ts → a'.tmps.getD t undef = a.tmps.getD t undef
def noDst (ts : List Nat) (os : List Oper) : Bool := os.all fun o => !(dstIn o.dst ts)
theorem put_other {a : Act} {d : Option Nat} {V : Value} {ts : List Nat} (h : (!(dstIn d ts)) = true) : Kept ts a (a.put d V) := fun t ht => by
  cases d with
  | none => rfl
  | some n =>
    have hne : n ≠ t := fun e => by
      subst e
      simp only [dstIn, Bool.not_eq_true', List.any_eq_false] at h
      exact h n ht (beq_self n)
    simp only [Act.put, Array.getD_eq_getD_getElem?, Array.getElem?_setIfInBounds_ne hne]
section
variable {mt : Nat → Prop} {g0 : Gh} {w0 : World} {ds : List Deferred} {N : Nat} {E : Env} {ops : Array Oper} {Q : Exit → Act → World → Prop}
theorem part_go (ok : EnvOk P E) (hm0 : ∀ b, w0.heap.size ≤ b → mt b) {next : Nat} {ts : List Nat} {js : List Nat} : ∀ (os : List Oper) (i : Nat) (sl : List SV) (h : Heap) (fps : List FP) (r : List SV × Heap), (∀ k o, os[k]? = some o → ops[i + k]? = some o) → noDst ts os = true →
    runOps E ops.toList os sl h (next + keys * i) fps (fun sl h _ => some (sl, h)) = some r → ∀ (a : Act) (w : World) (g : Gh), After mt g0 w0 (hget h) sl (next + keys * i) ds N a w g →
    (∀ a' w' g', After mt g0 w0 (hget r.2) r.1 (next + keys * (i + os.length)) ds N a' w' g' → Kept ts a a' → wpOps P ops Q js a' w') → wpOps P ops Q (idx i os.length ++ js) a w
  | [], i, sl, h, fps, r, _, _, hr, a, w, g, A, hK => by
    simp only [runOps, Option.some.injEq] at hr
    subst hr
    exact hK a w g A (fun _ _ => rfl)
  | o :: os, i, sl, h, fps, r, ho, hd, hr, a, w, g, A, hK => by
    obtain ⟨v, h1, fp, h2, h3⟩ := stepOp_E (show stepOp E ops.toList o sl h (next + keys * i) (fun sl' h' fp => runOps E ops.toList os sl' h' (next + keys * i + keys) (fp :: fps) (fun sl h _ => some (sl, h))) = some r from hr)
    rw [show next + keys * i + keys = next + keys * (i + 1) by rw [Nat.mul_add, Nat.mul_one, Nat.add_assoc]] at h3
    show wpOps P ops Q (i :: (idx (i + 1) os.length ++ js)) a w
    rw [wpOps_cons]
    simp only [noDst, List.all_cons, Bool.and_eq_true] at hd
    have ho0 : ops[i]? = some o := ho 0 o rfl
    refine step_wp ok A.mem (grown hm0 A.ext) A.slr A.len (fun n h1 _ => A.nx n h1) ho0 h2 fun V w' g' e hφ M' hsl' => ?_
    refine part_go ok hm0 os (i + 1) _ h1 (fp :: fps) r (fun k o' hk => by rw [show i + 1 + k = i + (k + 1) by omega]; exact ho (k + 1) o' (by simpa using hk)) hd.2 h3 _ w' g' ⟨A.ext.trans e, M', hsl', by rw [putS_len, put_size]; exact A.len, fun n hn => ?_, by rw [put_defers', put_size]; exact A.dfs⟩ fun a' w2 g2 A2 k2 => ?_
    · rw [Nat.mul_add, Nat.mul_one, ← Nat.add_assoc] at hn
      rw [hφ n (by simp only [keys] at *; omega)]
      exact A.nx n (by simp only [keys] at *; omega)
    · rw [show i + 1 + os.length = i + (o :: os).length by simp only [List.length_cons]; omega] at A2
      exact hK a' w2 g2 A2 fun t ht => (k2 t ht).trans (put_other hd.1 t ht)
theorem part_does (ok : EnvOk P E) (hm0 : ∀ b, w0.heap.size ≤ b → mt b) {next i : Nat} {ts js : List Nat} {os : List Oper} {s r : List SV × Heap} (ho : ∀ k o, os[k]? = some o → ops[i + k]? = some o) (hd : noDst ts os = true)
    (hr : partRun E ops os s (next + keys * i) = some r) {a : Act} {w : World} {g : Gh} (A : After mt g0 w0 (hget s.2) s.1 (next + keys * i) ds N a w g)
    (hK : ∀ a' w' g', After mt g0 w0 (hget r.2) r.1 (next + keys * (i + os.length)) ds N a' w' g' → Kept ts a a' → wpOps P ops Q js a' w') : wpOps P ops Q (idx i os.length ++ js) a w :=
  part_go ok hm0 os i s.1 s.2 [] r ho hd hr a w g A hK
theorem region_part (ok : EnvOk P E) (hm0 : ∀ b, w0.heap.size ≤ b → mt b) {id next : Nat} {ts : List Nat} {s r : List SV × Heap} (hr : partRun E ops ops.toList s next = some r) (hd : noDst ts ops.toList = true) {a : Act} {w : World} {g : Gh}
    (A : After mt g0 w0 (hget s.2) s.1 next ds N a w g) (hK : ∀ a' w' g', After mt g0 w0 (hget r.2) r.1 (next + keys * ops.size) ds N a' w' g' → Kept ts a a' → Q .normal a' w') : (Code.region id ops false).wp P Q a w := by
  refine wp_region ?_
  have e : List.range ops.size = idx 0 ops.toList.length ++ [] := by rw [idx_range, List.range_eq_range']; simp
  rw [e]
  refine part_does ok hm0 (next := next) (i := 0) (fun k o h => by rw [Nat.zero_add, ← Array.getElem?_toList]; exact h) hd (by rw [Nat.mul_zero, Nat.add_zero]; exact hr) (by rw [Nat.mul_zero, Nat.add_zero]; exact A) fun a' w' g' A' k => ?_
  rw [Nat.zero_add, show ops.toList.length = ops.size by simp] at A'
  exact hK a' w' g' A' k
/-- An operation that is done by hand. -/
theorem hand_wp {i : Nat} {is : List Nat} {o : Oper} {a : Act} {w w' : World} {V : Value} (ho : ops[i]? = some o) (hg : o.guard = none) (h : (execOp a.eval o).run P w = .ok (.value V) w') (hK : wpOps P ops Q is (a.put o.dst V) w') : wpOps P ops Q (i :: is) a w := by
  rw [wpOps_cons]
  unfold wpOp
  rw [ho]
  simp only
  rw [if_pos (by simp [Region.wanted, hg])]
  refine .inl ?_
  unfold Oper.wp
  rw [h]
  exact hK
theorem hand_wp_skip {i : Nat} {is : List Nat} {o : Oper} {a : Act} {w w' : World} (ho : ops[i]? = some o) (hg : o.guard = none) (h : (execOp a.eval o).run P w = .ok .skip w') (hK : wpOps P ops Q is (a.put o.dst undef) w') : wpOps P ops Q (i :: is) a w := by
  rw [wpOps_cons]
  unfold wpOp
  rw [ho]
  simp only
  rw [if_pos (by simp [Region.wanted, hg])]
  refine .inl ?_
  unfold Oper.wp
  rw [h]
  exact hK
theorem After.put {H : HF} {sl : List SV} {nx nx' : Nat} {a : Act} {w : World} {g : Gh} (A : After mt g0 w0 H sl nx ds N a w g) {v : SV} {V : Value} (hv : SVR g w.heap v V) (d : Option Nat) (hn : nx ≤ nx') : After mt g0 w0 H (putS sl d v) nx' ds N (a.put d V) w g :=
  ⟨A.ext, A.mem, SlR.put A.slr A.len hv d, by rw [putS_len, put_size]; exact A.len, fun n h => A.nx n (Nat.le_trans hn h), by rw [put_defers', put_size]; exact A.dfs⟩
theorem After.put' {H H' : HF} {sl sl' : List SV} {nx nx' : Nat} {a : Act} {w : World} {g : Gh} (A : After mt g0 w0 H sl nx ds N a w g) {v : SV} {V : Value} (hv : SVR g w.heap v V) (d : Option Nat) (hs : putS sl d v = sl') (hH : H = H') (hn : nx ≤ nx') : After mt g0 w0 H' sl' nx' ds N (a.put d V) w g := by
  subst hs hH
  exact A.put hv d hn
theorem noDst_nil (os : List Oper) : noDst [] os = true := by
  unfold noDst
  rw [List.all_eq_true]
  intro o _
  cases o.dst <;> rfl
theorem then_exit {K : Act → World → Prop} {Q : Exit → Act → World → Prop} {i : Nat} {a : Act} {w : World} (h : Q (.exit i) a w) : Exit.then K Q (.exit i) a w := h
theorem block_exit {Q : Exit → Act → World → Prop} {i : Nat} {a : Act} {w : World} (h : Q .normal a w) : Exit.inBlock i Q (.exit i) a w := by
  unfold Exit.inBlock
  simp only
  rw [if_pos trivial]
  exact h
theorem put_get {a : Act} {n : Nat} {V : Value} (h : n < a.tmps.size) : (a.put (some n) V).tmps.getD n undef = V := by
  simp [Act.put, Array.getD_eq_getD_getElem?, h]
end
/-! ### a block that the interpreter does not see -/
theorem Mem.touch {mt : Nat → Prop} {g : Gh} {H : HF} {hp hp' : HP} {r : Nat} (M : Mem mt g H hp) (hr : ¬ g.ro r) (hm : ¬ mt r) (hs : hp.size ≤ hp'.size) (hk : ∀ b, b ≠ r → b < hp.size → hp'[b]? = hp[b]?) : Mem mt g H hp' ∧ Stab g hp g hp' := by
  have st : Stab g hp g hp' := ⟨fun _ h => h, fun b h => hk b (fun e => hr (e ▸ h)) (M.ro b h), fun _ _ h => h⟩
  refine ⟨⟨fun n o h => ?_, M.own, M.ice, M.sep, fun b h => Nat.lt_of_lt_of_le (M.ro b h) hs⟩, st⟩
  obtain ⟨Q, h1, h2⟩ := M.obj n o h
  refine ⟨Q, h1, h2.stab st fun b hb => hk b (fun e => ?_) (h2.lt b hb)⟩
  subst e
  cases hi : o.iced with
  | false => exact hm (M.own n o Q b h hi h1 hb).1
  | true => exact hr (M.ice n o Q b h hi h1 hb)
theorem Mem.less {mt mt' : Nat → Prop} {g : Gh} {H : HF} {hp : HP} (M : Mem mt g H hp) (h : ∀ b, b < hp.size → mt b → mt' b) : Mem mt' g H hp := by
  refine ⟨M.obj, fun n o Q b h1 h2 h3 h4 => ?_, M.ice, M.sep, M.ro⟩
  obtain ⟨k1, k2⟩ := M.own n o Q b h1 h2 h3 h4
  obtain ⟨Q', q1, q2⟩ := M.obj n o h1
  rw [h3] at q1
  cases q1
  exact ⟨h b (q2.lt b h4) k1, k2⟩
theorem Ext.more {mt mt' : Nat → Prop} (h : ∀ b, mt b → mt' b) {g g' : Gh} {w w' : World} (e : Ext mt g w g' w') : Ext mt' g w g' w' :=
  ⟨e.os, e.tape, e.output, e.size, fun b hb hk => e.keep b hb (hk.imp (fun q p => q (h b p)) id), e.ro, fun b hb => (e.ro' b hb).imp id (h b), e.phi⟩
/-! ### the map -/
abbrev It4 := Int × Int × Int × Int
def it4T : Ty := .prod (.int .i64) (.prod (.int .i64) (.prod (.int .i64) (.int .i64)))
def keyV (k : It4) : Value := .agg #[.int .i64 k.1, .int .i64 k.2.1, .int .i64 k.2.2.1, .int .i64 k.2.2.2]
def k4 : List SK := [.int .i64, .int .i64, .int .i64, .int .i64]
def MapAt (w : World) (r : Nat) (ks : List It4) : Prop := ∃ es clock, w.heap[r]? = some (.map es clock) ∧ es.toList.map (·.key) = ks.map keyV
theorem key_eq {tX : Nat} (eq : EqOk P tX k4) (w : World) (k y : It4) : (Op.equal tX (keyV k) (keyV y)).run P w = .ok (decide (k = y)) w := by
  obtain ⟨a, b, c, d⟩ := k
  obtain ⟨a', b', c', d'⟩ := y
  have h := eq.eq w [.int .i64 a, .int .i64 b, .int .i64 c, .int .i64 d] [.int .i64 a', .int .i64 b', .int .i64 c', .int .i64 d'] ⟨⟨_, rfl⟩, ⟨_, rfl⟩, ⟨_, rfl⟩, ⟨_, rfl⟩, trivial⟩ ⟨⟨_, rfl⟩, ⟨_, rfl⟩, ⟨_, rfl⟩, ⟨_, rfl⟩, trivial⟩
  have e : eqV [Value.int .i64 a, .int .i64 b, .int .i64 c, .int .i64 d] [.int .i64 a', .int .i64 b', .int .i64 c', .int .i64 d'] = decide ((a, b, c, d) = (a', b', c', d')) := by
    rw [Bool.eq_iff_iff]
    simp [eqV, Prod.mk.injEq]
  rw [e] at h
  exact h
theorem run_findAsking4 {tX : Nat} (eq : EqOk P tX k4) (w : World) (k : It4) : ∀ (es : List MapEntry) (ks : List It4) (i : Nat), es.map (·.key) = ks.map keyV → ∃ res : Option (Nat × Value), (Instr.findAsking tX (keyV k) es i).run P w = .ok res w ∧ res.isSome = decide (k ∈ ks)
  | [], ks, i, h => by
    have : ks = [] := by cases ks <;> simp_all
    subst this
    exact ⟨none, rfl, by simp⟩
  | e :: es, [], i, h => by cases h
  | e :: es, y :: ks, i, h => by
    simp only [List.map_cons, List.cons.injEq] at h
    obtain ⟨res, h1, h2⟩ := run_findAsking4 eq w k es ks (i + 1) h.2
    rw [Instr.findAsking, Sem.run_bind, h.1, key_eq eq w k y, Result.andThen_ok]
    by_cases q : k = y
    · refine ⟨some (i, e.val), by simp [q], by simp [q]⟩
    · refine ⟨res, by simp only [q, decide_false, Bool.false_eq_true, if_false]; exact h1, by rw [h2]; simp [q]⟩
section
variable {tM tX tI : Nat} (hmap : P.underlying tM = some (.map tX tI)) (hwide : (match P.underlying tX with | some (.array _ _) | some (.struct _) => true | _ => false) = true) (eq : EqOk P tX k4)
  (hchk : ∀ (em : Bool) (k : It4) (w : World), (Instr.checkKey em 10000 tX (keyV k)).run P w = .ok () w)
include hmap hwide eq hchk
theorem run_lookup4 (hzero : ∀ w, (zeroValue tI).run P w = .ok (.int .i64 0) w) {w : World} {r : Nat} {ks : List It4} (hM : MapAt w r ks) (k : It4) : ∃ v, (Instr.lookup tM (.map (some r)) (keyV k) true).run P w = .ok (.tuple #[v, .bool (decide (k ∈ ks))]) w := by
  obtain ⟨es, clock, hb, he⟩ := hM
  obtain ⟨res, h1, h2⟩ := run_findAsking4 eq w k es.toList ks 0 he
  rw [← run_findKey_eq w hwide] at h1
  unfold Instr.lookup
  simp only [Sem.run_bind, run_underlying hmap, Result.andThen_ok, MapKept.run_getObj_map hb, Sem.run_pure, hchk, h1]
  cases res with
  | none =>
    have : decide (k ∈ ks) = false := by rw [← h2]; rfl
    exact ⟨.int .i64 0, by simp only [this, Sem.run_bind, hzero, Result.andThen_ok, Sem.run_pure, if_true]⟩
  | some p =>
    have : decide (k ∈ ks) = true := by rw [← h2]; rfl
    exact ⟨p.2, by simp only [this, Sem.run_bind, Result.andThen_ok, Sem.run_pure, if_true]⟩
theorem run_update4 {w : World} {r : Nat} {ks : List It4} (hM : MapAt w r ks) (k : It4) (hk : k ∉ ks) (v : Value) : ∃ w', (Instr.mapUpdate tM (.map (some r)) (keyV k) v).run P w = .ok () w' ∧ MapAt w' r (ks ++ [k]) ∧ w'.heap.size = w.heap.size ∧ (∀ b, b ≠ r → w'.heap[b]? = w.heap[b]?) ∧ w'.os = w.os ∧ w'.tape = w.tape ∧ w'.output = w.output := by
  obtain ⟨es, clock, hb, he⟩ := hM
  obtain ⟨res, h1, h2⟩ := run_findAsking4 eq w k es.toList ks 0 he
  rw [← run_findKey_eq w hwide] at h1
  have : res = none := by
    cases res with
    | none => rfl
    | some p => simp [hk] at h2
  subst this
  have hlt : r < w.heap.size := lt_of_get hb
  refine ⟨{ w with heap := w.heap.setIfInBounds r (.map (es.push { key := keyV k, val := v, born := clock }) (clock + 1)) }, ?_, ⟨es.push { key := keyV k, val := v, born := clock }, clock + 1, by simp [hlt], by simp [he]⟩, by simp, fun b hne => ?_, rfl, rfl, rfl⟩
  · unfold Instr.mapUpdate
    simp only [Sem.run_bind, run_underlying hmap, Result.andThen_ok, MapKept.run_getObj_map hb, hchk, h1, MapKept.run_setObj_map _ hb]
  · simp only
    rw [Array.getElem?_setIfInBounds_ne (Ne.symm hne)]
end
end Go.Proofs.Ytdbfecfcoephoaa.Mx

/- The interpreter's operations do what the model's do: one by one (own work). -/
import Derived.Test.YtmffnlcmklapmaaMxD
namespace Go.Proofs.Ytmffnlcmklapmaa.Mx
open Go
set_option autoImplicit false
set_option linter.unusedVariables false
set_option linter.unusedSimpArgs false
variable {P : Program}
/-- An operation comes to a value and a world of which R tells. -/
def Does (P : Program) (o : Oper) (a : Act) (w : World) (R : Value → World → Prop) : Prop :=
  ∀ (next : Act → World → Prop) (Q : Exit → Act → World → Prop), (∀ V w', R V w' → next (a.put o.dst V) w') → o.wp P a w next Q
theorem Does.value {o : Oper} {a : Act} {w w' : World} {R : Value → World → Prop} {V : Value} (h : (execOp a.eval o).run P w = .ok (.value V) w') (hr : R V w') : Does P o a w R := by
  intro next Q hn
  unfold Oper.wp
  rw [h]
  exact hn V w' hr
theorem Does.skip {o : Oper} {a : Act} {w w' : World} {R : Value → World → Prop} (h : (execOp a.eval o).run P w = .ok .skip w') (hr : R undef w') : Does P o a w R := by
  intro next Q hn
  unfold Oper.wp
  rw [h]
  exact hn undef w' hr
theorem Does.enter {o : Oper} {a : Act} {w w' : World} {R : Value → World → Prop} {f : FuncId} {args : Array Value} (h : (execOp a.eval o).run P w = .ok (.enter f args) w')
    (hr : Calls P f args w' fun e w2 => ∃ V, e = .returned V ∧ R V w2) : Does P o a w R := by
  intro next Q hn
  unfold Oper.wp
  rw [h]
  refine Calls.mono hr fun e w2 h2 => ?_
  obtain ⟨V, rfl, hR⟩ := h2
  exact hn V w2 hR
/-- What is left behind an operation. -/
def Post (mt : Nat → Prop) (g : Gh) (w : World) (base : Nat) (H' : HF) (v : SV) (V : Value) (w' : World) : Prop :=
  ∃ g', Ext mt g w g' w' ∧ (∀ n, ¬ (base ≤ n ∧ n < base + keys) → g'.φ n = g.φ n) ∧ Mem mt g' H' w'.heap ∧ SVR g' w'.heap v V
theorem Post.same {mt : Nat → Prop} {g : Gh} {w : World} {base : Nat} {H : HF} {v : SV} {V : Value} (M : Mem mt g H w.heap) (h : SVR g w.heap v V) : Post mt g w base H v V w :=
  ⟨g, Ext.refl _ _ _, fun _ _ => rfl, M, h⟩
/-- Only draws were made. -/
theorem Post.drawn {mt : Nat → Prop} {g : Gh} {w w' : World} {base : Nat} {H : HF} {v : SV} {V : Value} (h1 : w'.heap = w.heap) (h2 : w'.os = w.os) (h3 : w'.tape = w.tape) (h4 : w'.output = w.output) (M : Mem mt g H w.heap) (h : SVR g w.heap v V) : Post mt g w base H v V w' :=
  ⟨g, ⟨h2, h3, h4, by rw [h1]; exact Nat.le_refl _, fun _ _ _ => by rw [h1], fun _ h => h, fun _ h => .inl h, fun _ _ h => h⟩, fun _ _ => rfl, by rw [h1]; exact M, by rw [h1]; exact h⟩
def updφ (g : Gh) (n : Nat) (Q : Pl) : Gh := ⟨fun m => if m = n then some Q else g.φ m, g.ro⟩
theorem updφ_same (g : Gh) (n : Nat) (Q : Pl) : (updφ g n Q).φ n = some Q := if_pos rfl
theorem updφ_ne (g : Gh) {n m : Nat} (Q : Pl) (h : m ≠ n) : (updφ g n Q).φ m = g.φ m := if_neg h
theorem updφ_phi {g : Gh} {n : Nat} {Q : Pl} (hn : g.φ n = none) : ∀ m R, g.φ m = some R → (updφ g n Q).φ m = some R := fun m R h => by
  by_cases e : m = n
  · subst e; rw [hn] at h; cases h
  · rw [updφ_ne g Q e]; exact h
theorem push_new (hp : HP) (o : Go.Obj) : (hp.push o)[hp.size]? = some o := by simp
theorem push_old (hp : HP) (o : Go.Obj) (k : Nat) (h : k < hp.size) : (hp.push o)[k]? = hp[k]? := by rw [Array.getElem?_push, if_neg (by omega)]
/-- A new block under a new key. -/
theorem Post.new {mt : Nat → Prop} {g : Gh} {w w' : World} {base s : Nat} {H : HF} {v : SV} {V : Value} {o : Obj} {Q : Pl} {ob : Go.Obj} (M : Mem mt g H w.heap) (hm : ∀ b, w.heap.size ≤ b → mt b)
    (hw : w'.heap = w.heap.push ob) (h2 : w'.os = w.os) (h3 : w'.tape = w.tape) (h4 : w'.output = w.output) (hf : g.φ (base + s) = none) (hs : s < keys) (hi : o.iced = false) (hQ : Q.blk = some w.heap.size)
    (ho : ObjR (updφ g (base + s) Q) w'.heap Q o) (hv : SVR (updφ g (base + s) Q) w'.heap v V) : Post mt g w base (upd H (base + s) (some o)) v V w' := by
  have hnr : ¬ g.ro w.heap.size := fun h => absurd (M.ro _ h) (Nat.lt_irrefl _)
  refine ⟨updφ g (base + s) Q, ⟨h2, h3, h4, by rw [hw]; simp, fun b hb _ => by rw [hw, push_old _ _ _ hb], fun _ h => h, fun _ h => .inl h, updφ_phi hf⟩, fun n hn => updφ_ne g Q (by omega), ?_, hv⟩
  refine M.put (P := Q) (updφ_same g _ Q) (updφ_phi hf) rfl hi (fun b hb => ?_) (fun c hc _ => by rw [hw, push_old _ _ _ hc]) (by rw [hw]; simp) ho
  rw [hQ] at hb
  cases hb
  refine ⟨hm _ (Nat.le_refl _), hnr, fun m o' R _ hH hR hRb => ?_⟩
  obtain ⟨R', hR', hO⟩ := M.obj m o' hH
  rw [hR] at hR'
  cases hR'
  exact absurd (hO.lt _ hRb) (Nat.lt_irrefl _)
/-- A key without a block. -/
theorem Post.bare {mt : Nat → Prop} {g : Gh} {w w' : World} {base s : Nat} {H : HF} {v : SV} {V : Value} {o : Obj} {Q : Pl} (M : Mem mt g H w.heap)
    (hw : w'.heap = w.heap) (h2 : w'.os = w.os) (h3 : w'.tape = w.tape) (h4 : w'.output = w.output) (hf : g.φ (base + s) = none) (hs : s < keys) (hi : o.iced = false) (hQ : Q.blk = none)
    (ho : ObjR (updφ g (base + s) Q) w'.heap Q o) (hv : SVR (updφ g (base + s) Q) w'.heap v V) : Post mt g w base (upd H (base + s) (some o)) v V w' := by
  refine ⟨updφ g (base + s) Q, ⟨h2, h3, h4, by rw [hw]; simp, fun b hb _ => by rw [hw], fun _ h => h, fun _ h => .inl h, updφ_phi hf⟩, fun n hn => updφ_ne g Q (by omega), ?_, hv⟩
  exact M.put (P := Q) (updφ_same g _ Q) (updφ_phi hf) rfl hi (fun b hb => by rw [hQ] at hb; cases hb) (fun c hc _ => by rw [hw]) (by rw [hw]; simp) ho
theorem setRow_heap {w : World} {b : Nat} {vs us : Array Value} {t : TypeId} (h : w.heap[b]? = some (.cells vs t (0, 0))) : (w.setRow b us).heap[b]? = some (.cells us t (0, 0)) := by
  simp only [World.setRow, Array.getElem?_modify, if_true, h, Option.map_some]
theorem setRow_other {w : World} {b k : Nat} {us : Array Value} (h : k ≠ b) : (w.setRow b us).heap[k]? = w.heap[k]? := by
  simp only [World.setRow, Array.getElem?_modify]
  rw [if_neg (Ne.symm h)]
/-- A live key's block is written. -/
theorem Post.set {mt : Nat → Prop} {g : Gh} {w w' : World} {base n b : Nat} {H : HF} {v : SV} {V : Value} {o o' : Obj} {Q : Pl} (M : Mem mt g H w.heap)
    (hH : H n = some o) (hQ : g.φ n = some Q) (hi0 : o.iced = false) (hi : o'.iced = false) (hb : Q.blk = some b)
    (hk : ∀ c, c ≠ b → w'.heap[c]? = w.heap[c]?) (hs : w'.heap.size = w.heap.size) (h2 : w'.os = w.os) (h3 : w'.tape = w.tape) (h4 : w'.output = w.output)
    (ho : Stab g w.heap g w'.heap → ObjR g w'.heap Q o') (hv : Stab g w.heap g w'.heap → SVR g w'.heap v V) : Post mt g w base (upd H n (some o')) v V w' := by
  obtain ⟨hmt, hnr⟩ := M.own n o Q b hH hi0 hQ hb
  have st : Stab g w.heap g w'.heap := ⟨fun _ h => h, fun c hc => hk c fun e => hnr (e ▸ hc), fun _ _ h => h⟩
  refine ⟨g, ⟨h2, h3, h4, by rw [hs]; exact Nat.le_refl _, fun c hc hor => hk c fun e => ?_, fun _ h => h, fun _ h => .inl h, fun _ _ h => h⟩, fun _ _ => rfl, ?_, hv st⟩
  · subst e; exact hor.elim (fun h => h hmt) hnr
  · refine M.put hQ (fun _ _ h => h) rfl hi (fun c hc => ?_) (fun c _ hc => hk c fun e => hc (e ▸ hb)) (by rw [hs]; exact Nat.le_refl _) (ho st)
    rw [hb] at hc
    cases hc
    exact ⟨hmt, hnr, fun m o2 R hm hHm hR hRb => M.sep m n o2 o R Q b hm hHm hH hR hQ hRb hb⟩
/-! ### reading an operand -/
def SlR (g : Gh) (hp : HP) (sl : List SV) (a : Act) : Prop := ∀ t, SVR g hp (getS sl t) (a.tmps.getD t undef)
theorem ofVal_VR (g : Gh) (hp : HP) (v : Value) : VR g hp (ofVal v) v := by
  unfold ofVal
  split <;> first
    | rfl
    | trivial
    | exact ⟨0, _, rfl, YtmffnlcmklapmaaF.rep_zero, YtmffnlcmklapmaaF.rep_one⟩
    | exact ⟨0, _, rfl, YtmffnlcmklapmaaF.rep_zero, YtmffnlcmklapmaaF.rep_neg_one⟩
theorem rd_SVR {g : Gh} {hp : HP} {sl : List SV} {a : Act} (h : SlR g hp sl a) : ∀ x : Operand, SVR g hp (rd sl x) (a.eval x)
  | .tmp t => h t
  | .const v => ofVal_VR g hp v
  | .func f => ⟨[], rfl, trivial⟩
  | .global _ => trivial
/-! ### types at work -/
theorem isAgg_run {t : Nat} {i : TI} (h : TIok P t i) (w : World) : (isAgg t).run P w = .ok i.agg w := by
  obtain ⟨x, d, z, h1, h2, h3, h4, h5, h6, h7⟩ := h.get
  simp only [isAgg, Sem.run_bind, run_underlying h6, Result.andThen_ok]
  cases d <;> simp only [udOf] at h7 <;> simp only [TI.agg, ← h7, Sem.run_pure]
theorem sizeOf_run {t : Nat} {i : TI} (h : TIok P t i) (w : World) : (sizeOf t).run P w = .ok i.size w := by
  obtain ⟨x, d, z, h1, h2, _⟩ := h.get
  simp only [sizeOf, Sem.run_bind, run_typeInfo w h1, Result.andThen_ok, Sem.run_pure, h2]
theorem zero_run {t : Nat} {i : TI} (h : TIok P t i) (w : World) : ∃ z : Value, z.cells.toList = i.zero.map rawV ∧ (zeroValue t).run P w = .ok z w := by
  obtain ⟨x, d, z, h1, h2, h3, h4, h5, _⟩ := h.get
  exact ⟨z, h5, by simp only [zeroValue, Sem.run_bind, run_typeInfo w h1, Result.andThen_ok, h4, Sem.run_pure]⟩
theorem und_run {t : Nat} {i : TI} (h : TIok P t i) : ∃ d, P.underlying t = some d ∧ udOf d = i.und := by
  obtain ⟨x, d, z, _, _, _, _, _, h6, h7⟩ := h.get
  exact ⟨d, h6, h7⟩
theorem cells_arr (a : Array Value) : (Value.agg a).cells = a := rfl
theorem mkAV_cells {g : Gh} {hp : HP} {agg : Bool} {cs : List CV} {A : AV} {vs : List Value} (hm : mkAV agg cs = some A) (h : All2 (VR g hp) cs vs) :
    (agg = true → AVR g hp A (.agg vs.toArray)) ∧ (agg = false → ∃ v, vs = [v] ∧ AVR g hp A v) := by
  constructor
  · rintro rfl
    simp only [mkAV, Option.some.injEq] at hm
    subst hm
    exact ⟨vs, rfl, h⟩
  · rintro rfl
    match cs, vs, h with
    | [c], [v], h =>
      simp only [mkAV, Option.some.injEq] at hm
      subst hm
      exact ⟨v, rfl, h.1⟩
    | [], _, _ => simp [mkAV] at hm
    | _ :: _ :: _, _, _ => simp [mkAV] at hm
    | [_], [], h => exact h.elim
    | [_], _ :: _ :: _, h => exact h.2.elim
/-- A load of a value whose cells are known. -/
theorem load_run {g : Gh} {t : Nat} {i : TI} {w : World} {b off : Nat} {cs : List CV} {vs : List Value} {A : AV} (h : TIok P t i) (hl : vs.length = i.size)
    (hc : ∀ j v, vs[j]? = some v → w.cell? ⟨b, off + j, none⟩ = some v) (hm : mkAV i.agg cs = some A) (hv : All2 (VR g w.heap) cs vs) :
    ∃ V, (Instr.loadAt t (.pointer (some ⟨b, off, none⟩))).run P w = .ok V w ∧ AVR g w.heap A V := by
  obtain ⟨h1, h2⟩ := mkAV_cells hm hv
  have hadd : ∀ j, (⟨b, off, none⟩ : Addr).add j = ⟨b, off + j, none⟩ := fun j => by
    unfold Addr.add
    split
    · subst_vars; rfl
    · rfl
  simp only [Instr.loadAt, Instr.sureAddr, Sem.run_bind, Sem.run_pure, Result.andThen_ok, loadVar, isAgg_run h]
  cases ha : i.agg with
  | true =>
    refine ⟨.agg vs.toArray, ?_, h1 ha⟩
    simp only [if_true, Sem.run_bind, sizeOf_run h, Result.andThen_ok, ← hl]
    rw [run_loadCells_list (P := P) w ⟨b, off, none⟩ vs fun j v hj => by rw [hadd]; exact hc j v hj]
    rfl
  | false =>
    obtain ⟨v, rfl, hA⟩ := h2 ha
    refine ⟨v, ?_, hA⟩
    simp only [Bool.false_eq_true, if_false, run_load, hc 0 v rfl]
    rw [show (⟨b, off, none⟩ : Addr) = ⟨b, off + 0, none⟩ from rfl, hc 0 v rfl]
theorem oneCells {g : Gh} {hp : HP} : ∀ {cs : List CV} {vs : List Value}, All2 (VR g hp) cs vs → cs.all live = true → ∀ v ∈ vs, v.oneCell' = true
  | [], [], _, _, v, hv => by cases hv
  | c :: cs, u :: us, ⟨h, hr⟩, hl, v, hv => by
    simp only [List.all_cons, Bool.and_eq_true] at hl
    rcases List.mem_cons.1 hv with rfl | hv
    · exact VR.one h (by rintro rfl; simp [live] at hl)
    · exact oneCells hr hl.2 v hv
  | [], _ :: _, h, _, _, _ => h.elim
  | _ :: _, [], h, _, _, _ => h.elim
theorem avCs_VR {g : Gh} {hp : HP} {A : AV} {V : Value} (h : AVR g hp A V) (hl : (avCs A).all live = true) : All2 (VR g hp) (avCs A) V.cells.toList := by
  cases A with
  | agg xs => obtain ⟨vs, rfl, h⟩ := h; exact h
  | c x =>
    have h' : VR g hp x V := h
    have : V.oneCell' = true := VR.one h' (by rintro rfl; simp [avCs, live] at hl)
    refine (show All2 (VR g hp) [x] V.cells.toList from ?_)
    have e : V.cells.toList = [V] := by cases V <;> first | rfl | simp [Value.oneCell'] at this
    rw [e]
    exact ⟨h', trivial⟩
/-- A store into a block of the call's own. -/
theorem store_run {t : Nat} {i : TI} {w : World} {b off : Nat} {V : Value} {cur : Array Value} {ty : TypeId} (h : TIok P t i) (hl : V.cells.toList.length = i.size)
    (hb : w.heap[b]? = some (.cells cur ty (0, 0))) (hfit : off + V.cells.toList.length ≤ cur.size) (h1 : ∀ v ∈ V.cells.toList, v.oneCell' = true) :
    (Instr.storeAt t (.pointer (some ⟨b, off, none⟩)) V).run P w = .ok () (w.setRow b (cur.toList.take off ++ V.cells.toList ++ cur.toList.drop (off + V.cells.toList.length)).toArray) := by
  have hst := run_storeCells_at P b off ty V.cells.toList 0 cur w hb (by simpa using hfit) h1
  have hsz : V.cells.size = i.size := by simpa using hl
  simp only [Nat.add_zero] at hst
  have e0 : (⟨b, off, none⟩ : Addr).add 0 = ⟨b, off, none⟩ := rfl
  simp only [Instr.storeAt, Instr.sureAddr, Sem.run_bind, Sem.run_pure, Result.andThen_ok, storeVar, sizeOf_run h, hsz, ne_eq, not_true_eq_false, if_false, hst]
end Go.Proofs.Ytmffnlcmklapmaa.Mx

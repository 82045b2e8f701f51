/- The interpreter's operations that make blocks do what the model's do (own work). -/
import Derived.Test.YtmffnlcmklapmaaMxI
import Derived.Laws.MakeOwn
import Derived.Great.BuildSlice
namespace Go.Proofs.Ytmffnlcmklapmaa.Mx
open Go
set_option autoImplicit false
set_option linter.unusedVariables false
set_option linter.unusedSimpArgs false
variable {P : Program}
section
variable {mt : Nat → Prop} {g : Gh} {H H' : HF} {w : World} {base : Nat} {fp fp' : FP} {v : SV}
/-- What an operation that makes something comes to. -/
def Makes (P : Program) (mt : Nat → Prop) (g : Gh) (H' : HF) (w : World) (base : Nat) (v : SV) (s : Sem Value) : Prop := ∃ V w', s.run P w = .ok V w' ∧ Post mt g w base H' v V w'
theorem Gives.makes {s : Sem Value} (M : Mem mt g H w.heap) (h : Gives P g H H' w v s) : Makes P mt g H' w base v s := by
  obtain ⟨V, h1, h2, rfl⟩ := h
  exact ⟨V, w, h1, Post.same M h2⟩
theorem keys_pos : 0 < keys := by decide
/-- A new box. -/
theorem box_does {cs : List CV} {V : Value} {t : Nat} (M : Mem mt g H w.heap) (hm : ∀ b, w.heap.size ≤ b → mt b) (hf : ∀ n, base ≤ n → n < base + keys → g.φ n = none) (hv : All2 (VR g w.heap) cs V.cells.toList)
    (h : (boxM cs).eval base H fp = some (v, H', fp')) : Makes P mt g H' w base v (do pure (.pointer (some (← newVar t V)))) := by
  simp only [boxM, MA.eval] at h
  cases ho : H (base + 0) with
  | some _ => rw [ho] at h; cases h
  | none =>
    rw [ho] at h
    simp only [keys_pos, if_true, ret, MA.eval, Option.some.injEq, Prod.mk.injEq] at h
    obtain ⟨rfl, rfl, _⟩ := h
    let Q : Pl := ⟨some w.heap.size, none, 0, 0, 0⟩
    refine ⟨.pointer (some ⟨w.heap.size, 0, none⟩), { w with heap := w.heap.push (.cells V.cells t) }, by simp only [newVar, newRow, Sem.run_bind, run_newObj, Result.andThen_ok, Sem.run_pure], ?_⟩
    have hfr := hf (base + 0) (by omega) (by have := keys_pos; omega)
    have st : Stab g w.heap (updφ g (base + 0) Q) (w.heap.push (.cells V.cells t)) := ⟨fun _ h => h, fun b hb => push_old _ _ _ (M.ro b hb), updφ_phi hfr⟩
    refine Post.new (Q := Q) M hm rfl rfl rfl rfl hfr keys_pos rfl rfl ⟨_, V.cells, t, rfl, push_new _ _, All2.mono (VR.stab st) _ _ hv⟩ ⟨Q, _, updφ_same g _ Q, rfl, rfl⟩
theorem fold_set : ∀ (vs : List Value) (k off : Nat) (cells : Array Value), off + k + vs.length ≤ cells.size →
    ((vs.zipIdx k).foldl (fun (cs : Array Value) (x : Value × Nat) => cs.setIfInBounds (off + x.2) x.1) cells).toList = cells.toList.take (off + k) ++ vs ++ cells.toList.drop (off + k + vs.length)
  | [], k, off, cells, h => by simp
  | v :: vs, k, off, cells, h => by
    simp only [List.length_cons] at h
    rw [List.zipIdx_cons, List.foldl_cons, fold_set vs (k + 1) off _ (by simp; omega)]
    simp only [Array.toList_setIfInBounds]
    refine List.ext_getElem? fun q => ?_
    have hs : cells.size = cells.toList.length := by simp
    rw [show off + (k + 1) = off + k + 1 by omega]
    have e1 := put_nth (cells.toList.set (off + k) v) (off + k + 1) vs q (by rw [List.length_set]; omega)
    have e2 := put_nth cells.toList (off + k) (v :: vs) q (by simp only [List.length_cons]; omega)
    rw [e1, e2]
    simp only [List.length_cons]
    by_cases h1 : off + k + 1 ≤ q ∧ q < off + k + 1 + vs.length
    · rw [if_pos h1, if_pos (by omega), show q - (off + k) = (q - (off + k + 1)) + 1 by omega]; rfl
    · rw [if_neg h1, List.getElem?_set]
      by_cases h2 : off + k = q
      · rw [if_pos h2, if_pos (by omega), if_pos (by omega), ← h2, Nat.sub_self]; rfl
      · rw [if_neg h2, if_neg (by omega)]
theorem fold_cells (V : Value) (off : Nat) (cells : Array Value) (h : off + V.cells.size ≤ cells.size) :
    (V.cells.zipIdx.foldl (fun cs (c, j) => cs.setIfInBounds (off + j) c) cells).toList = cells.toList.take off ++ V.cells.toList ++ cells.toList.drop (off + V.cells.toList.length) := by
  rw [← Array.foldl_toList, Array.toList_zipIdx]
  exact fold_set V.cells.toList 0 off cells (by simpa using h)
/-- Parts with their numbers. -/
def PartR (g : Gh) (hp : HP) (x : Nat × SV) (y : Nat × Value) : Prop := x.1 = y.1 ∧ SVR g hp x.2 y.2
theorem fill_does {place : Nat → Option (Nat × Nat)} {placeM : Nat → Option (Nat × Nat)} (hpl : ∀ i x, placeM i = some x → place i = some x) : ∀ (ps : List (Nat × SV)) (vs : List (Nat × Value)) (cs cs' : List CV) (cells : Array Value),
    All2 (PartR g w.heap) ps vs → All2 (VR g w.heap) cs cells.toList → fillCs placeM cs ps = some cs' → ∃ cells', Instr.fill place cells vs = some cells' ∧ All2 (VR g w.heap) cs' cells'.toList
  | [], [], cs, cs', cells, _, hc, h => by simp only [fillCs, Option.some.injEq] at h; subst h; exact ⟨cells, rfl, hc⟩
  | (i, .v a) :: ps, (i', V) :: vs, cs, cs', cells, ⟨⟨hi, hV⟩, hps⟩, hc, h => by
    simp only at hi hV
    subst hi
    simp only [fillCs] at h
    cases h1 : placeM i with
    | none => rw [h1] at h; cases h
    | some p =>
      obtain ⟨off, size⟩ := p
      rw [h1] at h
      simp only at h
      cases hf : fits (avCs a) size with
      | false => rw [hf] at h; cases h
      | true =>
        rw [hf] at h
        obtain ⟨f1, f2⟩ := fits_spec hf
        simp only at h
        split at h
        · rename_i cs2 hc2
          have hv2 := avCs_VR (A := a) hV f2
          have hlen := All2.length hv2
          obtain ⟨h3, h4⟩ := put_VR hc hv2 hc2
          have hsz : V.cells.size = size := by rw [← f1, hlen]; simp
          have hle : off + V.cells.size ≤ cells.size := by simpa using h4
          obtain ⟨cells', h5, h6⟩ := fill_does hpl ps vs cs2 cs' (V.cells.zipIdx.foldl (fun cs (c, j) => cs.setIfInBounds (off + j) c) cells) hps (by rw [fold_cells V off cells hle]; exact h3) h
          refine ⟨cells', ?_, h6⟩
          simp only [Instr.fill, hpl i _ h1]
          rw [if_neg (by simp only [hsz, ne_eq, not_true_eq_false, Bool.or_eq_true, decide_eq_true_eq, false_or]; omega)]
          exact h5
        · cases h
  | (_, .tup _) :: _, _, _, _, _, _, _, h => by simp [fillCs] at h
  | [], _ :: _, _, _, _, h, _, _ => h.elim
  | _ :: _, [], _, _, _, h, _, _ => h.elim
theorem mapM_places (fs : Array Field) (h : ∀ f ∈ fs.toList, (P.info? f.type).isSome = true) : (fs.mapM fun f => do pure (f.offset, ← sizeOf f.type) : Sem (Array (Nat × Nat))).run P w = .ok (fs.map fun f => (f.offset, P.cellsOf f.type)) w := by
  have key : ∀ l : List Field, (∀ f ∈ l, (P.info? f.type).isSome = true) → (l.mapM fun f => do pure (f.offset, ← sizeOf f.type) : Sem (List (Nat × Nat))).run P w = .ok (l.map fun f => (f.offset, P.cellsOf f.type)) w := by
    intro l
    induction l with
    | nil => intro _; rfl
    | cons f l ih =>
      intro hl
      obtain ⟨i, hi⟩ := Option.isSome_iff_exists.1 (hl f (by simp))
      simp only [List.mapM_cons, Sem.run_bind, run_sizeOf w hi, Result.andThen_ok, Sem.run_pure, ih fun f' hf' => hl f' (by simp [hf']), List.map_cons]
  rw [← Array.toArray_toList (xs := fs), List.mapM_toArray, Sem.run_map, key fs.toList h]
  simp only [Result.andThen_ok, Array.toArray_toList]
  congr 1
  apply Array.ext'
  simp
theorem build_does {tis : List (Nat × TI)} {t : Nat} {i : TI} {ps : List (Nat × SV)} {vs : List (Nat × Value)} {cs : List CV} (T : TIs P tis) (ht : TIok P t i) (hagg : i.agg = true) (hps : All2 (PartR g w.heap) ps vs) (hc : fillCs (placeOf tis i) i.zero ps = some cs) :
    ∃ V, (Instr.build t vs.toArray).run P w = .ok V w ∧ SVR g w.heap (.v (.agg cs)) V := by
  obtain ⟨z, hz1, hz2⟩ := zero_run ht w
  have hz : All2 (VR g w.heap) i.zero z.cells.toList := by rw [hz1]; exact zero_VR g w.heap i.zero ht.zok
  cases hu : i.und with
  | struct fs =>
    obtain ⟨a, ha, hfs⟩ := fields_of ht hu
    have hfl := ht.flds
    rw [hu] at hfl
    have hinfo : ∀ f ∈ a.toList, (P.info? f.type).isSome = true := fun f hf => by
      simp only [List.all_eq_true] at hfl
      exact hfl (f.offset, f.type) (by rw [← hfs]; exact List.mem_map.2 ⟨f, hf, rfl⟩)
    obtain ⟨cells, h1, h2⟩ := fill_does (place := ((a.map fun f => (f.offset, P.cellsOf f.type))[·]?)) (placeM := placeOf tis i) (fun k x hx => by
      unfold placeOf at hx
      rw [hu] at hx
      simp only at hx
      cases hn : nthF fs k with
      | none => rw [hn] at hx; cases hx
      | some p =>
        obtain ⟨off, ft⟩ := p
        rw [hn] at hx
        simp only at hx
        cases hq : tget tis ft with
        | none => rw [hq] at hx; cases hx
        | some q =>
          rw [hq] at hx
          simp only [Option.some.injEq] at hx
          subst hx
          obtain ⟨a', y, e1, e2, e3, e4⟩ := field_of ht hu hn
          rw [ha] at e1
          cases e1
          have hcell : P.cellsOf ft = q.size := by
            obtain ⟨x, d, z', k1, k2, _⟩ := (T ft q hq).get
            simp only [Program.cellsOf, k1, Option.map_some, Option.getD_some, k2]
          simp only [Array.getElem?_map, e2, Option.map_some, e3, e4, hcell]) ps vs i.zero cs z.cells hps hz hc
    refine ⟨.agg cells, ?_, cells.toList, by simp, h2⟩
    simp only [Instr.build, Sem.run_bind, hz2, Result.andThen_ok, run_underlying ha, mapM_places a hinfo, h1, Sem.run_pure]
  | arr n e =>
    obtain ⟨d, hd, hu2⟩ := und_run ht
    rw [hu] at hu2
    cases d <;> first | (cases hu2; done) | skip
    rename_i n' e'
    obtain ⟨rfl, rfl⟩ : n = n' ∧ e = e' := by (injection hu2 with a b; exact ⟨a.symm, b.symm⟩)
    have hfl := ht.flds
    rw [hu] at hfl
    obtain ⟨ie, hie⟩ := Option.isSome_iff_exists.1 hfl
    obtain ⟨cells, h1, h2⟩ := fill_does (place := fun i => some (i * P.cellsOf e, P.cellsOf e)) (placeM := placeOf tis i) (fun k x hx => by
      unfold placeOf at hx
      rw [hu] at hx
      simp only at hx
      cases hq : tget tis e with
      | none => rw [hq] at hx; cases hx
      | some q =>
        rw [hq] at hx
        simp only [Option.some.injEq] at hx
        subst hx
        have hcell : P.cellsOf e = q.size := by
          obtain ⟨x, d, z', k1, k2, _⟩ := (T e q hq).get
          simp only [Program.cellsOf, k1, Option.map_some, Option.getD_some, k2]
        rw [hcell]) ps vs i.zero cs z.cells hps hz hc
    refine ⟨.agg cells, ?_, cells.toList, by simp, h2⟩
    simp only [Instr.build, Sem.run_bind, hz2, Result.andThen_ok, run_underlying hd, run_sizeOf w hie, h1, Sem.run_pure]
  | _ => simp [TI.agg, hu] at hagg
/-- n elements of zero. -/
theorem rep_nth {k : Nat} (cs : List CV) (hk : cs.length = k) : ∀ (n q : Nat), q < n * k → (repCs cs n)[q]? = cs[q % k]?
  | 0, q, h => by simp at h
  | n + 1, q, h => by
    simp only [repCs]
    by_cases hq : q < k
    · rw [List.getElem?_append_left (by omega), Nat.mod_eq_of_lt hq]
    · have h' : q - k < n * k := by rw [Nat.add_mul, Nat.one_mul] at h; omega
      rw [List.getElem?_append_right (by omega), hk, rep_nth cs hk n (q - k) h']
      congr 1
      exact (Nat.mod_eq_sub_mod (by omega)).symm
theorem rep_len (cs : List CV) : ∀ n, (repCs cs n).length = n * cs.length
  | 0 => by simp [repCs]
  | n + 1 => by simp only [repCs, List.length_append, rep_len cs n, Nat.add_mul, Nat.one_mul]; omega
theorem made_nth (z : Array Value) (n q : Nat) (h : q < n * z.size) (hz : 0 < z.size) : (madeCells z (n * z.size)).toList[q]? = z.toList[q % z.size]? := by
  have hm : q % z.size < z.size := Nat.mod_lt _ hz
  simp only [madeCells, Array.toList_map, Array.toList_range, List.getElem?_map, List.getElem?_range h, Option.map_some]
  rw [Array.getElem?_toList, Array.getElem?_eq_getElem hm]
  simp [hm]
theorem made_VR {hp : HP} {cs : List CV} {z : Array Value} (h : All2 (VR g hp) cs z.toList) (n : Nat) (hz : 0 < z.size) : All2 (VR g hp) (repCs cs n) (madeCells z (n * z.size)).toList := by
  have hl := All2.length h
  have hl' : cs.length = z.size := by simpa using hl
  refine All2.of_nth _ _ (fun q c hc => ?_) (by rw [rep_len, hl']; simp [size_madeCells])
  have hq : q < n * z.size := by have := (List.getElem?_eq_some_iff.1 hc).1; rw [rep_len, hl'] at this; exact this
  rw [rep_nth cs hl' n q hq] at hc
  obtain ⟨y, h1, h2⟩ := All2.get _ h hc
  exact ⟨y, by rw [made_nth z n q hq hz]; exact h1, h2⟩
theorem made_RdL {ro : Nat → Prop} {hp : HP} {e : Ty} {x : e.T} {z : Array Value} (h : Rd ro hp e x z.toList) (n c : Nat) (hnc : n ≤ c) : ∃ us rest, (madeCells z (c * z.size)).toList = us ++ rest ∧ RdL (Rd ro hp e) (List.replicate n x) us := by
  have hz : z.size = e.size := by have := Rd.length e _ _ h; simpa using this
  have hpos : 0 < z.size := by rw [hz]; exact e.size_pos
  have key : ∀ n, (madeCells z (n * z.size)).toList = (List.replicate n z.toList).flatten := fun n => by
    refine List.ext_getElem? fun q => ?_
    by_cases hq : q < n * z.size
    · rw [made_nth z n q hq hpos]
      clear hnc
      induction n generalizing q with
      | zero => simp at hq
      | succ n ih =>
        rw [List.replicate_succ, List.flatten_cons]
        by_cases hq2 : q < z.size
        · rw [List.getElem?_append_left (by simpa using hq2), Nat.mod_eq_of_lt hq2]
        · have h' : q - z.size < n * z.size := by rw [Nat.add_mul, Nat.one_mul] at hq; omega
          rw [List.getElem?_append_right (by simp; omega), Array.length_toList, ← ih _ h', Nat.mod_eq_sub_mod (by omega)]
    · rw [List.getElem?_eq_none (by simp [size_madeCells]; omega), List.getElem?_eq_none (by simp; omega)]
  refine ⟨(List.replicate n z.toList).flatten, (List.replicate (c - n) z.toList).flatten, ?_, RdL.replicate h n⟩
  rw [key, ← List.flatten_append, List.replicate_append_replicate, show n + (c - n) = c by omega]
/-- A row of the call's own is handed on to elements: nobody writes to it from here on. -/
theorem Post.of_parts {w' : World} {g' : Gh} {V : Value} {H2 : HF} (a : Ext mt g w g' w) (b : ∀ n, g'.φ n = g.φ n) (c : Post mt g' w base H2 v V w') : Post mt g w base H2 v V w' := by
  obtain ⟨g2, h1, h2, h3, h4⟩ := c
  exact ⟨g2, a.trans h1, fun n hn => (h2 n hn).trans (b n), h3, h4⟩
theorem Post.of_parts' {w' : World} {g' : Gh} {V : Value} {H2 : HF} (a : Ext mt g w g' w) (b : ∀ n, g'.φ n = g.φ n) (c : Post mt g' w base H2 v V w') : Post mt g w base H2 v V w' := Post.of_parts a b c
theorem rowsIn_does : ∀ (e : Ty) (cs : List CV) (vs : List Value) (g : Gh) (H : HF) (fp : FP) (r : List CV × List CV), Mem mt g H w.heap → All2 (VR g w.heap) cs vs → (rowsIn e cs).eval base H fp = some (r, H', fp') →
    ∃ g', Ext mt g w g' w ∧ (∀ n, g'.φ n = g.φ n) ∧ Mem mt g' H' w.heap ∧ ∃ us us', vs = us ++ us' ∧ All2 (VR g' w.heap) r.1 us ∧ All2 (VR g' w.heap) r.2 us' := by
  intro e
  induction e generalizing H' fp' with
  | prod a b iha ihb =>
    intro cs vs g H fp r M hv h
    simp only [rowsIn, MA.eval_bind] at h
    cases h1 : (rowsIn a cs).eval base H fp with
    | none => rw [h1] at h; cases h
    | some x =>
      obtain ⟨x, H1, fp1⟩ := x
      rw [h1] at h
      simp only at h
      cases h2 : (rowsIn b x.2).eval base H1 fp1 with
      | none => rw [h2] at h; cases h
      | some y =>
        obtain ⟨y, H2, fp2⟩ := y
        rw [h2] at h
        simp only [MA.eval, Option.some.injEq, Prod.mk.injEq] at h
        obtain ⟨rfl, rfl, rfl⟩ := h
        obtain ⟨g1, e1, p1, M1, us, us', k1, k2, k3⟩ := iha cs vs g H fp x M hv h1
        obtain ⟨g2, e2, p2, M2, ws, ws', l1, l2, l3⟩ := ihb x.2 us' g1 H1 fp1 y M1 k3 h2
        exact ⟨g2, e1.trans e2, fun n => (p2 n).trans (p1 n), M2, us ++ ws, ws', by rw [k1, l1, List.append_assoc], All2.append (All2.mono (VR.stab (e2.stab M1.ro)) _ _ k2) l2, l3⟩
  | row e _ =>
    intro cs vs g H fp r M hv h
    have plain : ∀ c cs', cs = c :: cs' → r = ([c], cs') → H' = H → ∃ g', Ext mt g w g' w ∧ (∀ n, g'.φ n = g.φ n) ∧ Mem mt g' H' w.heap ∧ ∃ us us', vs = us ++ us' ∧ All2 (VR g' w.heap) r.1 us ∧ All2 (VR g' w.heap) r.2 us' := fun c cs' hc hr hH => by
      subst hc hr hH
      match vs, hv with
      | u :: vs, ⟨hu, hv⟩ => exact ⟨g, Ext.refl _ _ _, fun _ => rfl, M, [u], vs, rfl, ⟨hu, trivial⟩, hv⟩
    have taken : ∀ n (e' : Ty) (l : List e'.T) (u : Value) (Q : Pl), VR g w.heap (.own n) u → g.φ n = some Q → ArrR g w.heap Q e' l → (∀ b, Q.blk = some b → g.ro b) → VR g w.heap (.row e' l) u := fun n e' l u Q hu hQ hA hro => by
      obtain ⟨Q', hQ', rfl⟩ := hu
      rw [hQ] at hQ'
      cases hQ'
      refine ⟨Q.base, Q.cap, by rw [hA.1], by rw [← hA.1]; exact hA.2.2.1, fun hl => ?_⟩
      obtain ⟨b, cs, t, fz, us, rest, h1, h2, h3, h4⟩ := arr_row hA hl
      refine ⟨b, 0, cs, t, fz, us, rest, h1, ?_, h2, by rw [List.drop_zero, h3], h4⟩
      obtain ⟨a1, a2, a3, a4⟩ := hA
      cases hb : Q.blk with
      | none => rw [hb] at a4; rw [a4.2.2] at h1; cases h1
      | some b' =>
        rw [hb] at a4
        rw [a4.1] at h1
        cases h1
        exact hro b hb
    cases cs with
    | nil => simp [rowsIn, MA.eval] at h
    | cons c cs' =>
      cases c with
      | own n =>
        simp only [rowsIn] at h
        obtain ⟨o, ho, h⟩ := get_eval h
        obtain ⟨Q, hQ, hO⟩ := M.obj n o ho
        match vs, hv with
        | u :: vs, ⟨hu, hv⟩ =>
          split at h
          · rename_i e' l
            simp only [MA.eval, ho, Option.some.injEq, Prod.mk.injEq] at h
            obtain ⟨rfl, rfl, rfl⟩ := h
            have M' := M.freeze ho hQ
            have ex : Ext mt g w ⟨g.φ, fun b => g.ro b ∨ Q.blk = some b⟩ w := ⟨rfl, rfl, rfl, Nat.le_refl _, fun _ _ _ => rfl, fun _ h => .inl h, fun b hb => hb.imp id fun he => (M.own n _ Q b ho rfl hQ he).1, fun _ _ h => h⟩
            refine ⟨_, ex, fun _ => rfl, M', [u], vs, rfl, ⟨?_, trivial⟩, All2.mono (VR.stab (ex.stab M.ro)) _ _ hv⟩
            obtain ⟨Q', hQ', hO'⟩ := M'.obj n _ (upd_same _ _ _)
            have : Q' = Q := by rw [show (⟨g.φ, fun b => g.ro b ∨ Q.blk = some b⟩ : Gh).φ n = g.φ n from rfl, hQ] at hQ'; exact (Option.some.inj hQ').symm
            subst this
            have hu' : VR ⟨g.φ, fun b => g.ro b ∨ Q'.blk = some b⟩ w.heap (.own n) u := hu
            obtain ⟨Q2, hQ2, rfl⟩ := hu'
            have : Q2 = Q' := by rw [show (⟨g.φ, fun b => g.ro b ∨ Q'.blk = some b⟩ : Gh).φ n = g.φ n from rfl, hQ] at hQ2; exact (Option.some.inj hQ2).symm
            subst this
            have hA : ArrR _ w.heap Q2 e' l := hO'
            refine ⟨Q2.base, Q2.cap, by rw [hA.1], by rw [← hA.1]; exact hA.2.2.1, fun hl => ?_⟩
            obtain ⟨b, cs, t, fz, us, rest, h1, h2, h3, h4⟩ := arr_row hA hl
            refine ⟨b, 0, cs, t, fz, us, rest, h1, .inr ?_, h2, by rw [List.drop_zero, h3], h4⟩
            obtain ⟨a1, a2, a3, a4⟩ := hA
            cases hb : Q2.blk with
            | none => rw [hb] at a4; rw [a4.2.2] at h1; cases h1
            | some b' => rw [hb] at a4; rw [a4.1] at h1; cases h1; rfl
          · rename_i e' l
            simp only [MA.eval, Option.some.injEq, Prod.mk.injEq] at h
            obtain ⟨rfl, rfl, rfl⟩ := h
            exact ⟨g, Ext.refl _ _ _, fun _ => rfl, M, [u], vs, rfl, ⟨taken n e' l u Q hu hQ hO fun b hb => M.ice n _ Q b ho rfl hQ hb, trivial⟩, hv⟩
          · exact (fail_eval h).elim
      | _ => simp only [rowsIn, MA.eval, Option.some.injEq, Prod.mk.injEq] at h; exact plain _ cs' rfl h.1.symm h.2.1.symm
  | _ =>
    intro cs vs g H fp r M hv h
    cases cs with
    | nil => simp [rowsIn, MA.eval] at h
    | cons c cs' =>
      simp only [rowsIn, MA.eval, Option.some.injEq, Prod.mk.injEq] at h
      obtain ⟨rfl, rfl, rfl⟩ := h
      match vs, hv with
      | u :: vs, ⟨hu, hv⟩ => exact ⟨g, Ext.refl _ _ _, fun _ => rfl, M, [u], vs, rfl, ⟨hu, trivial⟩, hv⟩
theorem freeze_does {x v : SV} {X : Value} {g : Gh} {H : HF} {fp : FP} (M : Mem mt g H w.heap) (hx : SVR g w.heap x X) (h : (freezeM x).eval base H fp = some (v, H', fp')) :
    ∃ g', Ext mt g w g' w ∧ (∀ n, g'.φ n = g.φ n) ∧ Mem mt g' H' w.heap ∧ SVR g' w.heap v X := by
  unfold freezeM at h
  split at h
  · rename_i n
    rw [MA.eval_bind] at h
    cases h1 : (rowsIn (.row .bool) [.own n]).eval base H fp with
    | none => rw [h1] at h; cases h
    | some y =>
      obtain ⟨y, H1, fp1⟩ := y
      rw [h1] at h
      simp only at h
      obtain ⟨g1, e1, p1, M1, us, us', k1, k2, k3⟩ := rowsIn_does _ [.own n] [X] g H fp y M ⟨hx, trivial⟩ h1
      split at h
      · rename_i c hc
        simp only [MA.eval, Option.some.injEq, Prod.mk.injEq] at h
        obtain ⟨rfl, rfl, rfl⟩ := h
        rw [hc] at k2
        match us, k2, k1 with
        | [u], ⟨k2, _⟩, k1 =>
          injection k1 with k1
          subst k1
          exact ⟨g1, e1, p1, M1, k2⟩
      · exact (fail_eval h).elim
  · simp only [MA.eval, Option.some.injEq, Prod.mk.injEq] at h
    obtain ⟨rfl, rfl, rfl⟩ := h
    exact ⟨g, Ext.refl _ _ _, fun _ => rfl, M, hx⟩
theorem rowsInL_does (e : Ty) : ∀ (n : Nat) (cs : List CV) (vs : List Value) (g : Gh) (H H' : HF) (fp fp' : FP) (r : List CV), Mem mt g H w.heap → All2 (VR g w.heap) cs vs → (rowsInL e n cs).eval base H fp = some (r, H', fp') →
    ∃ g', Ext mt g w g' w ∧ (∀ n, g'.φ n = g.φ n) ∧ Mem mt g' H' w.heap ∧ All2 (VR g' w.heap) r vs
  | 0, [], vs, g, H, H', fp, fp', r, M, hv, h => by
    simp only [rowsInL, MA.eval, Option.some.injEq, Prod.mk.injEq] at h
    obtain ⟨rfl, rfl, rfl⟩ := h
    exact ⟨g, Ext.refl _ _ _, fun _ => rfl, M, hv⟩
  | 0, _ :: _, _, _, _, _, _, _, _, _, _, h => by simp [rowsInL, MA.eval] at h
  | n + 1, cs, vs, g, H, H', fp, fp', r, M, hv, h => by
    simp only [rowsInL, MA.eval_bind] at h
    cases h1 : (rowsIn e cs).eval base H fp with
    | none => rw [h1] at h; cases h
    | some x =>
      obtain ⟨x, H1, fp1⟩ := x
      rw [h1] at h
      simp only at h
      cases h2 : (rowsInL e n x.2).eval base H1 fp1 with
      | none => rw [h2] at h; cases h
      | some y =>
        obtain ⟨y, H2, fp2⟩ := y
        rw [h2] at h
        simp only [MA.eval, Option.some.injEq, Prod.mk.injEq] at h
        obtain ⟨rfl, rfl, rfl⟩ := h
        obtain ⟨g1, e1, p1, M1, us, us', k1, k2, k3⟩ := rowsIn_does e cs vs g H fp x M hv h1
        obtain ⟨g2, e2, p2, M2, l2⟩ := rowsInL_does e n x.2 us' g1 H1 H2 fp1 fp2 y M1 k3 h2
        exact ⟨g2, e1.trans e2, fun n => (p2 n).trans (p1 n), M2, by rw [k1]; exact All2.append (All2.mono (VR.stab (e2.stab M1.ro)) _ _ k2) l2⟩
end
end Go.Proofs.Ytmffnlcmklapmaa.Mx

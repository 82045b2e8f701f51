/- The interpreter's slices that are made and appended to are the model's (own work). -/
import Derived.Test.YtmffnlcmklapmaaMxJ
namespace Go.Proofs.Ytmffnlcmklapmaa.Mx
open Go
set_option autoImplicit false
set_option linter.unusedVariables false
set_option linter.unusedSimpArgs false
variable {P : Program}
section
variable {mt : Nat → Prop} {g : Gh} {H H' : HF} {w : World} {base : Nat} {fp fp' : FP} {v : SV}
theorem elem_eval {tis : List (Nat × TI)} {t : Nat} {k : Ty → TI → MA SV} (T : TIs P tis) (h : (elemM tis t k).eval base H fp = some (v, H', fp')) :
    ∃ i e j ty, tget tis t = some i ∧ TIok P t i ∧ i.und = .slice e ∧ TIok P e j ∧ j.ty = some ty ∧ (k ty j).eval base H fp = some (v, H', fp') := by
  unfold elemM at h
  split at h
  · rename_i i hi
    split at h
    · rename_i e he
      split at h
      · rename_i j hj
        split at h
        · rename_i ty hty
          exact ⟨i, e, j, ty, hi, T _ _ hi, he, T _ _ hj, hty, h⟩
        · exact (fail_eval h).elim
      · exact (fail_eval h).elim
    · exact (fail_eval h).elim
  · exact (fail_eval h).elim
theorem ty_of {e : Nat} {j : TI} {ty : Ty} (hj : TIok P e j) (h : j.ty = some ty) : ty.zeroV = j.zero.map rawV ∧ ty.size = j.size := by
  have h1 := hj.ty
  have h2 := hj.tysz
  rw [h] at h1 h2
  simp only [Option.map_some, Option.some.injEq] at h1 h2
  exact ⟨h1, h2⟩
theorem slice_und {t e : Nat} {i : TI} (ht : TIok P t i) (hu : i.und = .slice e) : P.underlying t = some (.slice e) := by
  obtain ⟨d, hd, hu2⟩ := und_run ht
  rw [hu] at hu2
  cases d <;> first | (cases hu2; done) | (injection hu2 with hu2; subst hu2)
  exact hd
theorem new_eval {s : Nat} {o : Obj} {m : MA SV} (h : (MA.new s o m).eval base H fp = some (v, H', fp')) : ∃ fp2, H (base + s) = none ∧ s < keys ∧ m.eval base (upd H (base + s) (some o)) fp2 = some (v, H', fp') := by
  simp only [MA.eval] at h
  cases ho : H (base + s) with
  | some _ => rw [ho] at h; cases h
  | none =>
    rw [ho] at h
    simp only at h
    by_cases hs : s < keys
    · rw [if_pos hs] at h; exact ⟨_, rfl, hs, h⟩
    · rw [if_neg hs] at h; cases h
theorem make_does {t e : Nat} {i j : TI} {ty : Ty} {x y : SV} {X Y : Value} (ht : TIok P t i) (hu : i.und = .slice e) (he : TIok P e j) (hty : j.ty = some ty) (M : Mem mt g H w.heap) (hm : ∀ b, w.heap.size ≤ b → mt b) (hf : ∀ n, base ≤ n → n < base + keys → g.φ n = none)
    (hx : SVR g w.heap x X) (hy : SVR g w.heap y Y) (h : (makeM ty j.bytes x y).eval base H fp = some (v, H', fp')) : Makes P mt g H' w base v (Instr.makeSlice t X Y) := by
  unfold makeM at h
  split at h
  · rename_i k1 n k2 c
    obtain rfl : X = _ := hx
    obtain rfl : Y = _ := hy
    rcases cond_eval h with ⟨hr, h⟩ | ⟨_, h⟩
    · simp only [decide_eq_true_eq] at hr
      obtain ⟨n0, nc, cl⟩ := hr
      obtain ⟨info, d, z, h1, h2, h3, h4, h5, h6, h7⟩ := he.get
      obtain ⟨zv, zs⟩ := ty_of he hty
      have hzs : z.cells.size = info.size := by
        have := congrArg List.length h5
        rw [List.length_map, he.zlen] at this
        rw [h2]; simpa using this
      have hbyte : (info.bytes : Int) * c ≤ 281474976710656 := by
        rw [h3]
        have h8 : j.bytes * (140737488355328 / j.bytes) ≤ 140737488355328 := Nat.mul_div_le _ _
        have h9 : (j.bytes : Int) * c ≤ (j.bytes : Int) * ((140737488355328 / j.bytes : Nat) : Int) := Int.mul_le_mul_of_nonneg_left cl (by omega)
        have h10 : ((j.bytes * (140737488355328 / j.bytes) : Nat) : Int) ≤ 140737488355328 := by omega
        rw [Int.natCast_mul] at h10
        omega
      have hc63 : c ≤ 9223372036854775807 := by
        have : limit j.bytes ≤ 140737488355328 := Nat.div_le_self _ _
        omega
      have hrun := run_make (P := P) w t e info z (slice_und ht hu) h1 h4 k1 k2 n c n0 nc hbyte hc63
      simp only [MA.eval] at h
      obtain ⟨fp2, ho, hs, h⟩ := new_eval h
      obtain ⟨rfl, rfl⟩ := ret_eval h
      let Q : Pl := ⟨some w.heap.size, some ⟨w.heap.size, 0, none⟩, n.toNat, c.toNat, ty.size⟩
      refine ⟨_, _, hrun, ?_⟩
      have hfr := hf (base + 0) (by omega) (by have := keys_pos; omega)
      have hR : Rd g.ro w.heap ty ty.dflt z.cells.toList := by rw [h5, ← zv]; exact Rd.dflt _ _ ty
      have st : Stab g w.heap (updφ g (base + 0) Q) (w.heap.push (.cells (madeCells z.cells (c.toNat * info.size)) e)) := ⟨fun _ h => h, fun b hb => push_old _ _ _ (M.ro b hb), updφ_phi hfr⟩
      obtain ⟨us, rest, k3, k4⟩ := made_RdL (n := n.toNat) (c := c.toNat) hR (by omega)
      rw [hzs] at k3
      refine Post.new (Q := Q) M hm rfl rfl rfl rfl hfr hs rfl rfl ?_ ⟨Q, updφ_same g _ Q, rfl⟩
      refine ⟨by simp [Q], rfl, by show n.toNat ≤ c.toNat; omega, rfl, _, e, us, rest, push_new _ _, k3, RdL.mono (fun x vs => Rd.stab st.ro st.hp ty x vs) _ _ k4, ?_⟩
      show c.toNat * ty.size ≤ _
      rw [size_madeCells, h2, zs]
      exact Nat.le_refl _
    · exact (fail_eval h).elim
  · exact (fail_eval h).elim
theorem buildSlice_does {t e n : Nat} {i j : TI} {ty : Ty} {ps : List (Nat × SV)} {vs : List (Nat × Value)} {cs : List CV} (ht : TIok P t i) (hu : i.und = .slice e) (he : TIok P e j) (hty : j.ty = some ty) (M : Mem mt g H w.heap) (hm : ∀ b, w.heap.size ≤ b → mt b) (hf : ∀ n, base ≤ n → n < base + keys → g.φ n = none)
    (hps : All2 (PartR g w.heap) ps vs) (hc : fillCs (fun i => some (i * j.size, j.size)) (repCs j.zero n) ps = some cs) (hn : Nat.ble (n * j.size) 16777216 = true)
    (h : ((rowsInL ty n cs).bind fun cs' => match ty.decL n cs' with
      | some l => .base fun b => .new 0 (.arr ty l) (ret (.own b))
      | none => .fail).eval base H fp = some (v, H', fp')) : Makes P mt g H' w base v (Instr.buildSlice t n vs.toArray) := by
  obtain ⟨info, d, z, h1, h2, h3, h4, h5, h6, h7⟩ := he.get
  obtain ⟨zv, zs⟩ := ty_of he hty
  have hzs : z.cells.size = info.size := by
    have := congrArg List.length h5
    rw [List.length_map, he.zlen] at this
    rw [h2]; simpa using this
  have hpos : 0 < info.size := by rw [h2, ← zs]; exact ty.size_pos
  have hz : All2 (VR g w.heap) j.zero z.cells.toList := by rw [h5]; exact zero_VR g w.heap j.zero he.zok
  have hinit : All2 (VR g w.heap) (repCs j.zero n) (madeCells z.cells (n * info.size)).toList := by rw [← hzs]; exact made_VR hz n (by rw [hzs]; exact hpos)
  obtain ⟨cells, f1, f2⟩ := fill_does (place := fun i => some (i * info.size, info.size)) (fun k x hx => by rw [h2]; exact hx) ps vs _ cs _ hps hinit hc
  have hrun : (Instr.buildSlice t n vs.toArray).run P w = .ok (.slice (some ⟨w.heap.size, 0, none⟩) n n) (w.alloc (.cells cells e)) := by
    by_cases hn0 : n = 0
    · subst hn0
      have hf1 : Instr.fill (fun i => some (i * info.size, info.size)) #[] vs = some cells := by
        have e0 : madeCells z.cells (0 * info.size) = #[] := by simp [madeCells]
        rw [e0] at f1; exact f1
      simp only [Instr.buildSlice, Sem.run_bind, run_underlying (slice_und ht hu), Result.andThen_ok, sizeOf_run he, Nat.zero_mul, Nat.not_lt_zero, gt_iff_lt, if_false, Sem.run_pure, if_true]
      have e1 : ∀ (f : Nat → Value), (Array.range 0).map f = #[] := fun f => by simp
      rw [← h2, e1, hf1]
      simp only [newRow, Sem.run_bind, run_newObj, Result.andThen_ok, Sem.run_pure]
      rfl
    · refine run_buildSlice (P := P) w t e n vs.toArray cells info z (slice_und ht hu) h1 h4 ?_ ?_ (by exact f1)
      · have := Nat.le_of_ble_eq_true hn; rw [h2]; omega
      · intro hh
        rcases Nat.mul_eq_zero.1 hh with h' | h'
        · exact hn0 h'
        · omega
  rw [MA.eval_bind] at h
  cases hr : (rowsInL ty n cs).eval base H fp with
  | none => rw [hr] at h; cases h
  | some p =>
    obtain ⟨cs', H1, fp1⟩ := p
    rw [hr] at h
    simp only at h
    obtain ⟨g1, e1, p1, M1, hv1⟩ := rowsInL_does ty n cs _ g H H1 fp fp1 cs' M f2 hr
    split at h
    · rename_i l hl
      simp only [MA.eval] at h
      obtain ⟨fp2, ho, hs, h⟩ := new_eval h
      obtain ⟨rfl, rfl⟩ := ret_eval h
      obtain ⟨k1, k2⟩ := decL_Rd n cs' _ l hv1 hl
      let Q : Pl := ⟨some w.heap.size, some ⟨w.heap.size, 0, none⟩, n, n, ty.size⟩
      refine ⟨_, _, hrun, ?_⟩
      have hfr : g1.φ (base + 0) = none := by rw [p1]; exact hf (base + 0) (by omega) (by have := keys_pos; omega)
      have st : Stab g1 w.heap (updφ g1 (base + 0) Q) (w.heap.push (.cells cells e)) := ⟨fun _ h => h, fun b hb => push_old _ _ _ (M1.ro b hb), updφ_phi hfr⟩
      refine Post.of_parts' e1 p1 (Post.new (Q := Q) M1 hm rfl rfl rfl rfl hfr hs rfl rfl ?_ ⟨Q, updφ_same g1 _ Q, rfl⟩)
      refine ⟨by simp [Q, k2], rfl, Nat.le_refl _, rfl, _, e, cells.toList, [], push_new _ _, by simp, RdL.mono (fun x vs => Rd.stab st.ro st.hp ty x vs) _ _ k1, ?_⟩
      have := RdL.length l _ k1
      rw [k2] at this
      show n * ty.size ≤ cells.size
      rw [← this]; simp
    · exact (fail_eval h).elim
/-- What is appended, as the memory has it. -/
theorem more_does {ty : Ty} {y : SV} {Y : Value} {more : List ty.T} (M : Mem mt g H w.heap) (hy : SVR g w.heap y Y) (h : (moreM ty y).eval base H fp = some (more, H', fp')) :
    H' = H ∧ ∃ A c, Y = .slice A more.length c ∧ (more ≠ [] → ∃ b o us, A = some ⟨b, o, none⟩ ∧ (∀ q u, us[q]? = some u → w.cell? ⟨b, o + q, none⟩ = some u) ∧ RdL (Rd g.ro w.heap ty) more us) := by
  unfold moreM at h
  split at h
  · rename_i e' l
    split at h
    · rename_i q
      subst q
      simp only [MA.eval, Option.some.injEq, Prod.mk.injEq] at h
      obtain ⟨rfl, rfl, _⟩ := h
      obtain ⟨A, c, hv, hc, hrow⟩ := (hy : Rd g.ro w.heap (.row e') l [Y])
      simp only [List.cons.injEq, and_true] at hv
      refine ⟨rfl, A, c, hv, fun hl => ?_⟩
      obtain ⟨b, o, cs, t, fz, us, rest, h1, h2, h3, h4, h5⟩ := hrow hl
      exact ⟨b, o, us, h1, fun q u hu => by rw [cell_blk h3, ← List.getElem?_drop, h4, List.getElem?_append_left (List.getElem?_eq_some_iff.1 hu).1]; exact hu, h5⟩
    · cases h
  · simp only [MA.eval, Option.some.injEq, Prod.mk.injEq] at h
    obtain ⟨rfl, rfl, _⟩ := h
    obtain rfl : Y = _ := hy
    exact ⟨rfl, none, 0, rfl, fun hl => absurd rfl hl⟩
  · rename_i n
    obtain ⟨Q, hQ, rfl⟩ := (hy : VR g w.heap (.own n) Y)
    obtain ⟨o, ho, h⟩ := get_eval h
    obtain ⟨Q', hQ', hO⟩ := M.obj n o ho
    rw [hQ] at hQ'
    cases hQ'
    have fin : ∀ l : List ty.T, ArrR g w.heap Q ty l → ∃ A c, Value.slice Q.base Q.len Q.cap = .slice A l.length c ∧ (l ≠ [] → ∃ b o us, A = some ⟨b, o, none⟩ ∧ (∀ q u, us[q]? = some u → w.cell? ⟨b, o + q, none⟩ = some u) ∧ RdL (Rd g.ro w.heap ty) l us) := fun l hA => by
      refine ⟨Q.base, Q.cap, by rw [hA.1], fun hl => ?_⟩
      obtain ⟨b, cs, t, fz, us, rest, h1, h2, h3, h4⟩ := arr_row hA hl
      exact ⟨b, 0, us, h1, fun q u hu => by rw [cell_blk h2, Nat.zero_add, h3, List.getElem?_append_left (List.getElem?_eq_some_iff.1 hu).1]; exact hu, h4⟩
    split at h
    · rename_i e' l
      split at h
      · rename_i q
        subst q
        simp only [MA.eval, Option.some.injEq, Prod.mk.injEq] at h
        obtain ⟨rfl, rfl, _⟩ := h
        exact ⟨rfl, fin l hO⟩
      · cases h
    · rename_i e' l
      split at h
      · rename_i q
        subst q
        simp only [MA.eval, Option.some.injEq, Prod.mk.injEq] at h
        obtain ⟨rfl, rfl, _⟩ := h
        exact ⟨rfl, fin l hO⟩
      · cases h
    · cases h
  · rename_i n lo hi
    obtain ⟨Q, A, c, hQ, hlo, hhi, hcap, rfl, hA⟩ := (hy : VR g w.heap (.sub n lo hi) Y)
    obtain ⟨o, ho, h⟩ := get_eval h
    obtain ⟨Q', hQ', hO⟩ := M.obj n o ho
    rw [hQ] at hQ'
    cases hQ'
    have fin : ∀ l : List ty.T, ArrR g w.heap Q ty l → ∃ A' c', Value.slice A (hi - lo) c = .slice A' ((l.take hi).drop lo).length c' ∧ ((l.take hi).drop lo ≠ [] → ∃ b o us, A' = some ⟨b, o, none⟩ ∧ (∀ q u, us[q]? = some u → w.cell? ⟨b, o + q, none⟩ = some u) ∧ RdL (Rd g.ro w.heap ty) ((l.take hi).drop lo) us) := fun l hAr => by
      have hlen : ((l.take hi).drop lo).length = hi - lo := by rw [List.length_drop, List.length_take, ← hAr.1]; omega
      refine ⟨A, c, by rw [hlen], fun hl => ?_⟩
      have hlt : lo < hi := by
        rcases Nat.lt_or_ge lo hi with h' | h'
        · exact h'
        · exact absurd (List.length_eq_zero_iff.1 (by rw [hlen]; omega)) hl
      obtain ⟨b, hb1, hb2⟩ := hA hlt
      have hne : l ≠ [] := by rintro rfl; have := hAr.1; simp at this; omega
      obtain ⟨b', cs, t, fz, us, rest, h1, h2, h3, h4⟩ := arr_row hAr hne
      obtain ⟨a1, a2, a3, a4⟩ := hAr
      rw [hb1] at a4
      rw [a4.1] at h1
      cases h1
      have hul := RdL.length l us h4
      refine ⟨b, lo * Q.size, (us.take (hi * ty.size)).drop (lo * ty.size), hb2, fun q u hu => ?_, RdL.take_drop l us lo hi h4 (by omega)⟩
      rw [cell_blk h2, a2, h3, List.getElem?_append_left]
      · rw [List.getElem?_drop, List.getElem?_take] at hu
        split at hu
        · exact hu
        · cases hu
      · have := (List.getElem?_eq_some_iff.1 hu).1
        rw [List.length_drop, List.length_take] at this
        omega
    split at h
    · rename_i e' l
      split at h
      · rename_i q
        subst q
        simp only [MA.eval, Option.some.injEq, Prod.mk.injEq] at h
        obtain ⟨rfl, rfl, _⟩ := h
        exact ⟨rfl, fin l hO⟩
      · cases h
    · rename_i e' l
      split at h
      · rename_i q
        subst q
        simp only [MA.eval, Option.some.injEq, Prod.mk.injEq] at h
        obtain ⟨rfl, rfl, _⟩ := h
        exact ⟨rfl, fin l hO⟩
      · cases h
    · cases h
  · cases h
end
end Go.Proofs.Ytmffnlcmklapmaa.Mx

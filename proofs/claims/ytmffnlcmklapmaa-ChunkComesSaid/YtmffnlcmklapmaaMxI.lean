/- The interpreter's operations on addresses, lengths, cuts and arrays do what the model's do (own work). -/
import Derived.Test.YtmffnlcmklapmaaMxH
namespace Go.Proofs.Ytmffnlcmklapmaa.Mx
open Go
set_option autoImplicit false
set_option linter.unusedVariables false
set_option linter.unusedSimpArgs false
variable {P : Program}
section
variable {mt : Nat → Prop} {g : Gh} {H H' : HF} {w : World} {base : Nat} {fp fp' : FP} {v : SV}
theorem addr_add (b o q : Nat) : (⟨b, o, none⟩ : Addr).add q = ⟨b, o + q, none⟩ := by unfold Addr.add; split <;> first | (subst_vars; rfl) | rfl
theorem fields_of {t : Nat} {i : TI} {fs : List (Nat × Nat)} (ht : TIok P t i) (hu : i.und = .struct fs) : ∃ a : Array Field, P.underlying t = some (.struct a) ∧ a.toList.map (fun f => (f.offset, f.type)) = fs := by
  obtain ⟨d, hd, hu2⟩ := und_run ht
  rw [hu] at hu2
  cases d <;> first | (cases hu2; done) | (injection hu2 with hu2; subst hu2)
  exact ⟨_, hd, rfl⟩
theorem nthF_nth : ∀ (l : List (Nat × Nat)) (n : Nat) (x : Nat × Nat), nthF l n = some x → l[n]? = some x
  | [], _, _, h => by simp [nthF] at h
  | y :: _, 0, x, h => by simpa [nthF] using h
  | _ :: r, n + 1, x, h => by simpa using nthF_nth r n x h
theorem field_of {t f off ft : Nat} {i : TI} {fs : List (Nat × Nat)} (ht : TIok P t i) (hu : i.und = .struct fs) (h : nthF fs f = some (off, ft)) :
    ∃ (a : Array Field) (x : Field), P.underlying t = some (.struct a) ∧ a[f]? = some x ∧ x.offset = off ∧ x.type = ft := by
  obtain ⟨a, h1, h2⟩ := fields_of ht hu
  have := nthF_nth fs f _ h
  rw [← h2, List.getElem?_map] at this
  cases hx : a.toList[f]? with
  | none => rw [hx] at this; cases this
  | some x =>
    rw [hx] at this
    simp only [Option.map_some, Option.some.injEq, Prod.mk.injEq] at this
    exact ⟨a, x, h1, by simpa using hx, this.1, this.2⟩
theorem fieldPlace_run {j : TI} {x : Field} {b o : Nat} (hj : TIok P x.type j) (hs : Nat.beq j.size 0 = false) : (fieldPlace ⟨b, o, none⟩ x).run P w = .ok ⟨b, o + x.offset, none⟩ w := by
  have hz : ¬ j.size = 0 := fun e => by rw [e] at hs; cases hs
  simp only [fieldPlace, Sem.run_bind, sizeOf_run hj, Result.andThen_ok, hz, if_false, Sem.run_pure, addr_add]
theorem field_does {t f off ft : Nat} {i j : TI} {fs : List (Nat × Nat)} {x : SV} {X : Value} (ht : TIok P t i) (hu : i.und = .struct fs) (hf : nthF fs f = some (off, ft)) (hj : TIok P ft j) (hs : Nat.beq j.size 0 = false) (hx : SVR g w.heap x X)
    (h : (fieldM off x).eval base H fp = some (v, H', fp')) : Gives P g H H' w v (Instr.fieldAt t X f) := by
  obtain ⟨a, y, h1, h2, h3, h4⟩ := field_of ht hu hf
  subst h3 h4
  have run : ∀ b o, (Instr.fieldAt t (.pointer (some ⟨b, o, none⟩)) f).run P w = .ok (.pointer (some ⟨b, o + y.offset, none⟩)) w := fun b o => by
    simp only [Instr.fieldAt, Instr.sureAddr, Sem.run_bind, run_underlying h1, Result.andThen_ok, h2, Sem.run_pure, fieldPlace_run hj hs]
  unfold fieldM at h
  split at h
  · obtain ⟨Q, b, hQ, hb, rfl⟩ := (hx : VR g w.heap (.ptr _ _) X)
    exact gives_ret h (run _ _) ⟨Q, b, hQ, hb, rfl⟩
  · obtain ⟨Q, b, hQ, hb, hk, rfl⟩ := (hx : VR g w.heap (.eptr _ _ _) X)
    exact gives_ret h (run _ _) ⟨Q, b, hQ, hb, hk, by rw [Nat.add_assoc]⟩
  · obtain ⟨Q, b, hQ, hb, hk, rfl⟩ := (hx : VR g w.heap (.aptr _ _ _ _ _ _) X)
    exact gives_ret h (run _ _) ⟨Q, b, hQ, hb, hk, by rw [Nat.add_assoc]⟩
  · obtain ⟨b, o, cs, ty, fz, us, rest, rfl, k1, k2, k3, k4, k5⟩ := (hx : VR g w.heap (.rptr _ _ _ _) X)
    exact gives_ret h (run _ _) ⟨b, o, cs, ty, fz, us, rest, by rw [Nat.add_assoc], k1, k2, k3, k4, k5⟩
  · exact (fail_eval h).elim
/-- A part of a struct or an array that is a value. -/
theorem part_run {t : Nat} {j : TI} {cs l : List CV} {vs : List Value} {A : AV} {off : Nat} (hj : TIok P t j) (hc : All2 (VR g w.heap) cs vs) (hl : cutCs cs off j.size = some l) (hA : mkAV j.agg l = some A) :
    ∃ V, (part t vs.toArray off).run P w = .ok V w ∧ AVR g w.heap A V := by
  obtain ⟨h1, h2⟩ := cut_VR hc hl
  obtain ⟨h3, h4⟩ := mkAV_cells hA h1
  simp only [part, Sem.run_bind, isAgg_run hj, Result.andThen_ok]
  cases ha : j.agg with
  | true =>
    refine ⟨_, ?_, h3 ha⟩
    simp only [if_true, Sem.run_bind, sizeOf_run hj, Result.andThen_ok, Sem.run_pure]
    congr 2
    apply Array.ext'
    rw [Array.toList_extract, List.extract_eq_take_drop]
    simp only [Nat.add_sub_cancel_left]
  | false =>
    obtain ⟨y, h5, h6⟩ := h4 ha
    refine ⟨y, ?_, h6⟩
    have : vs[off]? = some y := by
      have := nth_cut (l := vs) (k := off) (n := j.size) (j := 0) (x := y) (by rw [h5]; rfl)
      simpa using this
    have h' : (vs.toArray)[off]? = some y := by simpa using this
    simp only [Bool.false_eq_true, if_false, h', Sem.run_pure]
theorem fieldv_does {t f off ft : Nat} {i j : TI} {fs : List (Nat × Nat)} {cs l : List CV} {X : Value} (ht : TIok P t i) (hu : i.und = .struct fs) (hf : nthF fs f = some (off, ft)) (hj : TIok P ft j) (hx : SVR g w.heap (.v (.agg cs)) X)
    (hl : cutCs cs off j.size = some l) (h : (svO (mkAV j.agg l)).eval base H fp = some (v, H', fp')) : Gives P g H H' w v (Instr.field t X f) := by
  obtain ⟨a, y, h1, h2, h3, h4⟩ := field_of ht hu hf
  subst h3 h4
  obtain ⟨A, hA, rfl, rfl⟩ := svO_eval h
  obtain ⟨vs, rfl, hv⟩ := (hx : AVR g w.heap (.agg cs) X)
  obtain ⟨V, e1, e2⟩ := part_run hj hv hl hA
  exact ⟨V, by simp only [Instr.field, Sem.run_bind, run_underlying h1, Result.andThen_ok, h2, asAgg, Sem.run_pure, e1], e2, rfl⟩
theorem nilCheck_does {x : SV} {X : Value} {s : Sem Next} (hx : SVR g w.heap x X) (hs : ∀ a, X = .pointer (some a) → s = pure (.value X)) (h : (nilCheckM x).eval base H fp = some (v, H', fp')) : ∃ V, s.run P w = .ok (.value V) w ∧ SVR g w.heap v V ∧ H' = H := by
  unfold nilCheckM at h
  split at h
  all_goals first | exact (fail_eval h).elim | skip
  all_goals
    obtain ⟨rfl, rfl⟩ := ret_eval h
    refine ⟨X, ?_, hx, rfl⟩
  · obtain ⟨Q, b, hQ, hb, rfl⟩ := (hx : VR g w.heap (.ptr _ _) X); rw [hs _ rfl]; rfl
  · obtain ⟨Q, b, hQ, hb, hk, rfl⟩ := (hx : VR g w.heap (.eptr _ _ _) X); rw [hs _ rfl]; rfl
  · obtain ⟨b, o, cs, ty, fz, us, rest, rfl, _⟩ := (hx : VR g w.heap (.rptr _ _ _ _) X); rw [hs _ rfl]; rfl
  · obtain ⟨Q, b, hQ, hb, hk, rfl⟩ := (hx : VR g w.heap (.aptr _ _ _ _ _ _) X); rw [hs _ rfl]; rfl
theorem nthA_nth : ∀ (l : List AV) (n : Nat) (x : AV), nthA l n = some x → l[n]? = some x
  | [], _, _, h => by simp [nthA] at h
  | y :: _, 0, x, h => by simpa [nthA] using h
  | _ :: r, n + 1, x, h => by simpa using nthA_nth r n x h
theorem tup_does {k : Nat} {x : SV} {X : Value} (hx : SVR g w.heap x X) (h : (tupM k x).eval base H fp = some (v, H', fp')) : Gives P g H H' w v (Instr.extract X k) := by
  unfold tupM at h
  split at h
  · rename_i l
    obtain ⟨vs, rfl, hv⟩ := (hx : SVR g w.heap (.tup l) X)
    split at h
    · rename_i a ha
      simp only [MA.eval, Option.some.injEq, Prod.mk.injEq] at h
      obtain ⟨rfl, rfl, _⟩ := h
      obtain ⟨y, h1, h2⟩ := All2.get k hv (nthA_nth l k a ha)
      have h' : (vs.toArray)[k]? = some y := by simpa using h1
      exact ⟨y, by simp only [Instr.extract, h', Sem.run_pure], h2, rfl⟩
    · exact (fail_eval h).elim
  · exact (fail_eval h).elim
theorem len_does {t ty : Nat} {i : TI} {x : SV} {X : Value} (ht : TIok P t i) (M : Mem mt g H w.heap) (hx : SVR g w.heap x X) (h : (lenM i.und x).eval base H fp = some (v, H', fp')) : Gives P g H H' w v (Builtin.len_ #[t] ty #[X]) := by
  obtain ⟨d, hd, hu⟩ := und_run ht
  unfold lenM at h
  split at h
  · rename_i e he
    rw [he] at hu
    cases d <;> first | (cases hu; done) | skip
    have sl : ∀ A n c, (Builtin.len_ #[t] ty #[.slice A n c]).run P w = .ok (.int .i64 n) w := fun A n c => by
      simp [Builtin.len_, run_underlying hd, goInt]
    split at h
    · rename_i q l
      obtain ⟨A, c, hv, hc, hrow⟩ := (hx : Rd g.ro w.heap (.row q) l [X])
      simp only [List.cons.injEq, and_true] at hv
      subst hv
      exact gives_ret h (sl _ _ _) rfl
    · rename_i n
      obtain ⟨Q, hQ, rfl⟩ := (hx : VR g w.heap (.own n) X)
      obtain ⟨o, ho, h⟩ := get_eval h
      obtain ⟨Q', hQ', hO⟩ := M.obj n o ho
      rw [hQ] at hQ'
      cases hQ'
      split at h
      · rename_i q l
        have hO' : ArrR g w.heap Q q l := hO
        exact gives_ret h (sl _ _ _) (by rw [hO'.1]; rfl)
      · rename_i q l
        have hO' : ArrR g w.heap Q q l := hO
        exact gives_ret h (sl _ _ _) (by rw [hO'.1]; rfl)
      · exact (fail_eval h).elim
    · obtain ⟨Q, A, c, hQ, hlo, hhi, hcap, rfl, hA⟩ := (hx : VR g w.heap (.sub _ _ _) X)
      exact gives_ret h (sl _ _ _) rfl
    · obtain rfl : X = _ := hx
      exact gives_ret h (sl _ _ _) rfl
    · exact (fail_eval h).elim
  · rename_i he
    rw [he] at hu
    cases d <;> first | (cases hu; done) | skip
    split at h
    · obtain rfl : X = _ := hx
      exact gives_ret h (by simp [Builtin.len_, run_underlying hd, goInt]) rfl
    · exact (fail_eval h).elim
  · rename_i n e he
    rw [he] at hu
    cases d <;> first | (cases hu; done) | (injection hu with hu hu3; subst hu)
    exact gives_ret h (V := .int .i64 _) (by simp [Builtin.len_, run_underlying hd, goInt]) rfl
  · exact (fail_eval h).elim
theorem min2_run (k k' : IntKind) (a b : Int) : (Builtin.min2 (.int k a) (.int k' b)).run P w = .ok (.int k (minI a b)) w := by simp [Builtin.min2, minI]
theorem max2_run (k k' : IntKind) (a b : Int) : (Builtin.max2 (.int k a) (.int k' b)).run P w = .ok (.int k (maxI a b)) w := by simp [Builtin.max2, maxI]
theorem foldM_does {f : Int → Int → Int} {F : Value → Value → Sem Value} (hF : ∀ k k' a b, (F (.int k a) (.int k' b)).run P w = .ok (.int k (f a b)) w) : ∀ (l : List SV) (vs : List Value) (k : IntKind) (a : Int), All2 (SVR g w.heap) l vs → (foldM f k a l).eval base H fp = some (v, H', fp') →
    ∃ V, (vs.foldlM F (.int k a)).run P w = .ok V w ∧ SVR g w.heap v V ∧ H' = H
  | [], [], k, a, _, h => by
    obtain ⟨rfl, rfl⟩ := ret_eval h
    exact ⟨_, by simp [List.foldlM], rfl, rfl⟩
  | x :: l, y :: vs, k, a, ⟨hx, hl⟩, h => by
    unfold foldM at h
    split at h
    · rename_i heq; cases heq
    · rename_i k' b r heq
      cases heq
      split at h
      · obtain rfl : y = _ := hx
        obtain ⟨V, h1, h2⟩ := foldM_does hF l vs k (f a b) hl h
        exact ⟨V, by simp only [List.foldlM_cons, Sem.run_bind, hF, Result.andThen_ok, h1], h2⟩
      · exact (fail_eval h).elim
    · exact (fail_eval h).elim
  | [], _ :: _, _, _, h, _ => h.elim
  | _ :: _, [], _, _, h, _ => h.elim
theorem min_does {l : List SV} {vs : List Value} {ts : Array Nat} {ty : Nat} (hl : All2 (SVR g w.heap) l vs) (h : (minmaxM minI l).eval base H fp = some (v, H', fp')) : Gives P g H H' w v (Builtin.min_ ts ty vs.toArray) := by
  unfold minmaxM at h
  split at h
  · rename_i k a r
    match vs, hl with
    | y :: vs, ⟨hy, hl⟩ =>
      obtain rfl : y = _ := hy
      obtain ⟨V, h1, h2⟩ := foldM_does (F := Builtin.min2) (fun _ _ _ _ => min2_run _ _ _ _) r vs k a hl h
      exact ⟨V, by simp only [Builtin.min_]; exact h1, h2⟩
  · exact (fail_eval h).elim
theorem max_does {l : List SV} {vs : List Value} {ts : Array Nat} {ty : Nat} (hl : All2 (SVR g w.heap) l vs) (h : (minmaxM maxI l).eval base H fp = some (v, H', fp')) : Gives P g H H' w v (Builtin.max_ ts ty vs.toArray) := by
  unfold minmaxM at h
  split at h
  · rename_i k a r
    match vs, hl with
    | y :: vs, ⟨hy, hl⟩ =>
      obtain rfl : y = _ := hy
      obtain ⟨V, h1, h2⟩ := foldM_does (F := Builtin.max2) (fun _ _ _ _ => max2_run _ _ _ _) r vs k a hl h
      exact ⟨V, by simp only [Builtin.max_]; exact h1, h2⟩
  · exact (fail_eval h).elim
theorem cpx_does {l : List SV} {vs : List Value} {ts : Array Nat} {ty : Nat} (hl : All2 (SVR g w.heap) l vs) (h : (cpxM l).eval base H fp = some (v, H', fp')) : Gives P g H H' w v (Builtin.complex_ ts ty vs.toArray) := by
  unfold cpxM at h
  split at h
  · rename_i a b
    match vs, hl with
    | [x, y], ⟨hx, hy, _⟩ =>
      obtain ⟨p, rfl, hp⟩ := (hx : VR g w.heap (.fint a) x)
      obtain ⟨q, rfl, hq⟩ := (hy : VR g w.heap (.fint b) y)
      exact gives_ret h (run_complex (P := P) w ts ty .f64 p q) ⟨p, q, rfl, hp, hq⟩
  · exact (fail_eval h).elim
theorem real_does {l : List SV} {vs : List Value} {ts : Array Nat} {ty : Nat} (hl : All2 (SVR g w.heap) l vs) (h : (realM l).eval base H fp = some (v, H', fp')) : Gives P g H H' w v (Builtin.real_ ts ty vs.toArray) := by
  unfold realM at h
  split at h
  · rename_i a b
    match vs, hl with
    | [x], ⟨hx, _⟩ =>
      obtain ⟨p, q, rfl, hp, hq⟩ := (hx : VR g w.heap (.cint a b) x)
      exact gives_ret h (run_real (P := P) w ts ty .f64 p q) ⟨p, rfl, hp⟩
  · exact (fail_eval h).elim
theorem imag_does {l : List SV} {vs : List Value} {ts : Array Nat} {ty : Nat} (hl : All2 (SVR g w.heap) l vs) (h : (imagM l).eval base H fp = some (v, H', fp')) : Gives P g H H' w v (Builtin.imag_ ts ty vs.toArray) := by
  unfold imagM at h
  split at h
  · rename_i a b
    match vs, hl with
    | [x], ⟨hx, _⟩ =>
      obtain ⟨p, q, rfl, hp, hq⟩ := (hx : VR g w.heap (.cint a b) x)
      exact gives_ret h (run_imag (P := P) w ts ty .f64 p q) ⟨q, rfl, hq⟩
  · exact (fail_eval h).elim
theorem bnd_spec {d : Int} {x : Option SV} {X : Option Value} {a : Int} (hX : match x, X with | none, none => True | some y, some Y => SVR g w.heap y Y | _, _ => False) (h : bnd d x = some a) :
    (x = none ∧ X = none ∧ a = d) ∨ ∃ k, X = some (.int k a) := by
  unfold bnd at h
  split at h
  · simp only [Option.some.injEq] at h
    cases X with
    | none => exact .inl ⟨rfl, rfl, h.symm⟩
    | some _ => exact hX.elim
  · simp only [Option.some.injEq] at h
    subst h
    cases X with
    | none => exact hX.elim
    | some Y => exact .inr ⟨_, by rw [show Y = _ from hX]⟩
  · cases h
/-- A cut of a slice. -/
theorem slice_run {t e : Nat} {i j : TI} {A : Option Addr} {len cap : Nat} {X1 X2 : Option Value} {a b : Int} (ht : TIok P t i) (hu : i.und = .slice e) (he : TIok P e j) (hab : 0 ≤ a ∧ a ≤ b ∧ b ≤ len) (hc : len ≤ cap)
    (h1 : (X1 = none ∧ a = 0) ∨ ∃ k, X1 = some (.int k a)) (h2 : (X2 = none ∧ b = len) ∨ ∃ k, X2 = some (.int k b)) :
    (Instr.sliceAt t (.slice A len cap) X1 X2 none).run P w = .ok (sliced A a.toNat b.toNat cap j.size) w := by
  obtain ⟨d, hd, hu2⟩ := und_run ht
  rw [hu] at hu2
  cases d <;> first | (cases hu2; done) | (injection hu2 with hu2; subst hu2)
  have hsz := sizeOf_run he w
  have sb : ∀ (k : IntKind) (z : Int) (y : Nat) (c : BoundsCode), 0 ≤ z → z ≤ y → (Instr.sliceBound (.int k z) y c).run P w = .ok z.toNat w := fun k z y c h0 h1 => run_sliceBound w k z y c h0 h1
  obtain ⟨a0, ab, bl⟩ := hab
  have eb : (b.toNat : Int) = b := Int.toNat_of_nonneg (by omega)
  rcases h1 with ⟨rfl, rfl⟩ | ⟨k1, rfl⟩ <;> rcases h2 with ⟨rfl, rfl⟩ | ⟨k2, rfl⟩
  · simp only [Instr.sliceAt, Instr.slice, Sem.run_bind, run_underlying hd, Result.andThen_ok, Instr.sliceBounds, Sem.run_pure, hsz, sliced, Int.toNat_zero, Int.toNat_natCast]
  · simp only [Instr.sliceAt, Instr.slice, Sem.run_bind, run_underlying hd, Result.andThen_ok, Instr.sliceBounds, Sem.run_pure, hsz, sliced, Int.toNat_zero, if_true, sb k2 b cap _ (by omega) (by omega)]
  · simp only [Instr.sliceAt, Instr.slice, Sem.run_bind, run_underlying hd, Result.andThen_ok, Instr.sliceBounds, Sem.run_pure, hsz, sliced, Int.toNat_natCast, Option.isSome_none, Bool.false_eq_true, if_false, sb k1 a len _ a0 (by omega)]
  · simp only [Instr.sliceAt, Instr.slice, Sem.run_bind, run_underlying hd, Result.andThen_ok, Instr.sliceBounds, Sem.run_pure, hsz, sliced, Option.isSome_none, Bool.false_eq_true, if_false, if_true, sb k2 b cap _ (by omega) (by omega), sb k1 a b.toNat _ a0 (by omega)]
theorem slice_does {t e : Nat} {i j : TI} {x : SV} {X : Value} {lo hi : Option SV} {X1 X2 : Option Value} (ht : TIok P t i) (hu : i.und = .slice e) (he : TIok P e j) (M : Mem mt g H w.heap) (hx : SVR g w.heap x X)
    (h1 : match lo, X1 with | none, none => True | some y, some Y => SVR g w.heap y Y | _, _ => False) (h2 : match hi, X2 with | none, none => True | some y, some Y => SVR g w.heap y Y | _, _ => False)
    (h : (sliceM j.size x lo hi).eval base H fp = some (v, H', fp')) : Gives P g H H' w v (Instr.sliceAt t X X1 X2 none) := by
  have b1 : ∀ {a : Int}, bnd 0 lo = some a → (X1 = none ∧ a = 0) ∨ ∃ k, X1 = some (.int k a) := fun ha => (bnd_spec h1 ha).imp (fun q => ⟨q.2.1, q.2.2⟩) id
  have b2 : ∀ {a d : Int}, bnd d hi = some a → (X2 = none ∧ a = d) ∨ ∃ k, X2 = some (.int k a) := fun ha => (bnd_spec h2 ha).imp (fun q => ⟨q.2.1, q.2.2⟩) id
  unfold sliceM at h
  split at h
  · rename_i q l
    obtain ⟨A, c, hv, hc, hrow⟩ := (hx : Rd g.ro w.heap (.row q) l [X])
    simp only [List.cons.injEq, and_true] at hv
    subst hv
    split at h
    · rename_i a b ha hb
      cases hq : Nat.beq q.size j.size with
      | false => rw [hq] at h; exact (fail_eval h).elim
      | true =>
        rw [hq] at h
        rcases cond_eval h with ⟨hr, h⟩ | ⟨_, h⟩
        · simp only [decide_eq_true_eq] at hr
          refine gives_ret h (slice_run ht hu he hr hc (b1 ha) (b2 hb)) ?_
          obtain ⟨a0, ab, bl⟩ := hr
          have hlen : ((l.take b.toNat).drop a.toNat).length = b.toNat - a.toNat := by rw [List.length_drop, List.length_take]; omega
          refine ⟨if c = a.toNat then A else A.map (·.add (a.toNat * j.size)), c - a.toNat, ?_, by rw [hlen]; omega, fun hne => ?_⟩
          · rw [hlen]; rfl
          · have hba : a.toNat < b.toNat := by
              rcases Nat.lt_or_ge a.toNat b.toNat with h' | h'
              · exact h'
              · exact absurd (List.length_eq_zero_iff.1 (by rw [hlen]; omega)) hne
            obtain ⟨bk, o, cs, ty, fz, us, rest, rfl, k2, k3, k4, k5⟩ := hrow (by rintro rfl; simp at bl; omega)
            have hm : ¬ c = a.toNat := by omega
            have hul := RdL.length l us k5
            have hbl : b.toNat * q.size ≤ l.length * q.size := Nat.mul_le_mul_right _ (by omega)
            refine ⟨bk, o + a.toNat * j.size, cs, ty, fz, (us.take (b.toNat * q.size)).drop (a.toNat * q.size), us.drop (b.toNat * q.size) ++ rest, ?_, k2, k3, ?_, RdL.take_drop l us a.toNat b.toNat k5 (by omega)⟩
            · rw [if_neg hm]; simp only [Option.map_some, addr_add]
            · rw [← List.drop_drop, k4, ← beq_eq hq]
              have hal : a.toNat * q.size ≤ b.toNat * q.size := Nat.mul_le_mul_right _ (by omega)
              conv => lhs; rw [← List.take_append_drop (b.toNat * q.size) us]
              rw [List.append_assoc, List.drop_append_of_le_length (by rw [List.length_take]; omega)]
        · exact (fail_eval h).elim
    · exact (fail_eval h).elim
  · rename_i n
    obtain ⟨Q, hQ, rfl⟩ := (hx : VR g w.heap (.own n) X)
    obtain ⟨o, ho, h⟩ := get_eval h
    obtain ⟨Q', hQ', hO⟩ := M.obj n o ho
    rw [hQ] at hQ'
    cases hQ'
    split at h
    · rename_i q l
      have hO' : ArrR g w.heap Q q l := hO
      split at h
      · rename_i a b ha hb
        cases hq : Nat.beq q.size j.size with
        | false => rw [hq] at h; exact (fail_eval h).elim
        | true =>
          rw [hq] at h
          rcases cond_eval h with ⟨hr, h⟩ | ⟨_, h⟩
          · simp only [decide_eq_true_eq] at hr
            obtain ⟨e1, e2, e3, e4⟩ := hO'
            refine gives_ret h (slice_run ht hu he (by omega) e3 (b1 ha) ((b2 hb).imp (fun z => ⟨z.1, by rw [z.2, e1]⟩) id)) ?_
            obtain ⟨a0, ab, bl⟩ := hr
            refine ⟨Q, _, Q.cap - a.toNat, hQ, by omega, by omega, by omega, rfl, fun hlt => ?_⟩
            cases hb : Q.blk with
            | none => rw [hb] at e4; omega
            | some bk =>
              rw [hb] at e4
              refine ⟨bk, rfl, ?_⟩
              rw [if_neg (by omega), e4.1]
              simp only [Option.map_some, addr_add, Nat.zero_add]
              rw [e2, beq_eq hq]
          · exact (fail_eval h).elim
      · exact (fail_eval h).elim
    · exact (fail_eval h).elim
  · rename_i n p r
    obtain ⟨Q, A, c, hQ, hlo, hhi, hcap, rfl, hA⟩ := (hx : VR g w.heap (.sub n p r) X)
    obtain ⟨o, ho, h⟩ := get_eval h
    obtain ⟨Q', hQ', hO⟩ := M.obj n o ho
    rw [hQ] at hQ'
    cases hQ'
    split at h
    · rename_i q l
      have hO' : ArrR g w.heap Q q l := hO
      split at h
      · rename_i a b ha hb
        cases hq : Nat.beq q.size j.size with
        | false => rw [hq] at h; exact (fail_eval h).elim
        | true =>
          rw [hq] at h
          rcases cond_eval h with ⟨hr, h⟩ | ⟨_, h⟩
          · simp only [decide_eq_true_eq] at hr
            refine gives_ret h (slice_run ht hu he hr hcap (b1 ha) (b2 hb)) ?_
            obtain ⟨a0, ab, bl⟩ := hr
            refine ⟨Q, if c = a.toNat then A else A.map (·.add (a.toNat * j.size)), c - a.toNat, hQ, by omega, by omega, by omega, ?_, fun hlt => ?_⟩
            · rw [show p + b.toNat - (p + a.toNat) = b.toNat - a.toNat by omega]; rfl
            · obtain ⟨bk, hb1, hb2⟩ := hA (by omega)
              refine ⟨bk, hb1, ?_⟩
              rw [if_neg (by omega), hb2]
              simp only [Option.map_some, addr_add]
              rw [hO'.2.1, beq_eq hq, Nat.add_mul]
          · exact (fail_eval h).elim
      · exact (fail_eval h).elim
    · exact (fail_eval h).elim
  · exact (fail_eval h).elim
/-- A cut of an array in a box. -/
theorem slicebox_does {t e len : Nat} {i j : TI} {x : SV} {X : Value} {lo hi : Option SV} {X1 X2 : Option Value} (ht : TIok P t i) (hu : i.und = .arr len e) (he : TIok P e j) (hx : SVR g w.heap x X)
    (h1 : match lo, X1 with | none, none => True | some y, some Y => SVR g w.heap y Y | _, _ => False) (h2 : match hi, X2 with | none, none => True | some y, some Y => SVR g w.heap y Y | _, _ => False)
    (h : (sliceBoxM len j.size x lo hi).eval base H fp = some (v, H', fp')) : Gives P g H H' w v (Instr.sliceAt t X X1 X2 none) := by
  have b1 : ∀ {a : Int}, bnd 0 lo = some a → (X1 = none ∧ a = 0) ∨ ∃ k, X1 = some (.int k a) := fun ha => (bnd_spec h1 ha).imp (fun q => ⟨q.2.1, q.2.2⟩) id
  have b2 : ∀ {a d : Int}, bnd d hi = some a → (X2 = none ∧ a = d) ∨ ∃ k, X2 = some (.int k a) := fun ha => (bnd_spec h2 ha).imp (fun q => ⟨q.2.1, q.2.2⟩) id
  obtain ⟨d2, hd2, hu4⟩ := und_run ht
  rw [hu] at hu4
  have hd2 : P.underlying t = some (.array len e) := by cases d2 <;> first | (cases hu4; done) | (injection hu4 with hu4 hu5; subst hu4 hu5; exact hd2)
  have hsz := sizeOf_run he w
  have sb : ∀ (k : IntKind) (z : Int) (y : Nat) (c : BoundsCode), 0 ≤ z → z ≤ y → (Instr.sliceBound (.int k z) y c).run P w = .ok z.toNat w := fun k z y c h0 h1 => run_sliceBound w k z y c h0 h1
  unfold sliceBoxM at h
  split at h
  · rename_i n off
    obtain ⟨Q, b, hQ, hb, rfl⟩ := (hx : VR g w.heap (.ptr n off) X)
    split at h
    · rename_i a z ha hz
      rcases cond_eval h with ⟨hr, h⟩ | ⟨_, h⟩
      · simp only [decide_eq_true_eq] at hr
        obtain ⟨a0, ab, bl⟩ := hr
        have hrun : (Instr.sliceAt t (.pointer (some ⟨b, off, none⟩)) X1 X2 none).run P w = .ok (.slice (some (if len = a.toNat then (⟨b, off, none⟩ : Addr) else Addr.add ⟨b, off, none⟩ (a.toNat * j.size))) (z.toNat - a.toNat) (len - a.toNat)) w := by
          rcases b1 ha with ⟨rfl, rfl⟩ | ⟨k1, rfl⟩ <;> rcases b2 hz with ⟨rfl, rfl⟩ | ⟨k2, rfl⟩
          · simp only [Instr.sliceAt, Sem.run_bind, run_underlying hd2, Result.andThen_ok, Instr.sliceBounds, Instr.sureAddr, Sem.run_pure, hsz, Int.toNat_zero, Int.toNat_natCast]
          · simp only [Instr.sliceAt, Sem.run_bind, run_underlying hd2, Result.andThen_ok, Instr.sliceBounds, Instr.sureAddr, Sem.run_pure, hsz, Int.toNat_zero, Bool.false_eq_true, if_false, sb k2 z len _ (by omega) (by omega)]
          · simp only [Instr.sliceAt, Sem.run_bind, run_underlying hd2, Result.andThen_ok, Instr.sliceBounds, Instr.sureAddr, Sem.run_pure, hsz, Int.toNat_natCast, Option.isSome_none, Bool.false_eq_true, if_false, sb k1 a len _ a0 (by omega)]
          · simp only [Instr.sliceAt, Sem.run_bind, run_underlying hd2, Result.andThen_ok, Instr.sliceBounds, Instr.sureAddr, Sem.run_pure, hsz, Option.isSome_none, Bool.false_eq_true, if_false, sb k2 z len _ (by omega) (by omega), sb k1 a z.toNat _ a0 (by omega)]
        refine gives_ret h hrun ?_
        refine ⟨Q, b, _, len - a.toNat, hQ, hb, by omega, by omega, by omega, rfl, fun hlt => ?_⟩
        rw [if_neg (by omega)]
        simp only [addr_add]
      · exact (fail_eval h).elim
    · exact (fail_eval h).elim
  · exact (fail_eval h).elim
/-- An element of an array that is a value, or of a string. -/
theorem idxv_does {t e : Nat} {i j : TI} {x y : SV} {X Y : Value} (ht : TIok P t i) (he : TIok P e j) (hu : i.und = .str ∨ ∃ n, i.und = .arr n e) (hx : SVR g w.heap x X) (hy : SVR g w.heap y Y)
    (h : (idxvM i.und j x y).eval base H fp = some (v, H', fp')) : Gives P g H H' w v (Instr.index t X Y) := by
  unfold idxvM at h
  split at h
  · rename_i kz z
    obtain rfl : Y = _ := hy
    split at h
    · rename_i len e' cs harr
      obtain rfl : e' = e := by rcases hu with hu | ⟨n, hu⟩ <;> rw [harr] at hu <;> cases hu; rfl
      obtain ⟨vs, rfl, hv⟩ := (hx : AVR g w.heap (.agg cs) X)
      rcases cond_eval h with ⟨hr, h⟩ | ⟨_, h⟩
      · obtain ⟨z0, z1⟩ := inRange_spec hr
        obtain ⟨d, hd, hu2⟩ := und_run ht
        rw [harr] at hu2
        cases d <;> first | (cases hu2; done) | (obtain ⟨rfl, rfl⟩ : len = _ ∧ e' = _ := by (injection hu2 with a b; exact ⟨a.symm, b.symm⟩))
        split at h
        · rename_i r hsel
          obtain ⟨A, hA, rfl, rfl⟩ := svO_eval h
          obtain ⟨s1, s2⟩ := selN_nth (by omega) j.size 0 r hsel
          have hall : ∀ q c, r[q]? = some c → ∃ u, (vs.drop (z.toNat * j.size))[q]? = some u ∧ VR g w.heap c u := fun q c hc => by
            have := s2 q c hc
            rw [Nat.add_zero] at this
            obtain ⟨u, hu1, hu2⟩ := All2.get _ hv this
            exact ⟨u, by rw [List.getElem?_drop]; exact hu1, hu2⟩
          have hlen : j.size ≤ (vs.drop (z.toNat * j.size)).length := by
            rcases Nat.eq_zero_or_pos j.size with h0 | h0
            · omega
            · obtain ⟨u, hu, _⟩ := hall (j.size - 1) _ (List.getElem?_eq_getElem (by omega))
              have := (List.getElem?_eq_some_iff.1 hu).1
              omega
          have h5 : All2 (VR g w.heap) r ((vs.drop (z.toNat * j.size)).take j.size) := by
            refine All2.of_nth _ _ (fun q c hc => ?_) (by rw [List.length_take]; omega)
            obtain ⟨u, hu, hv'⟩ := hall q c hc
            have hq : q < j.size := by have := (List.getElem?_eq_some_iff.1 hc).1; omega
            exact ⟨u, by rw [List.getElem?_take, if_pos hq]; exact hu, hv'⟩
          obtain ⟨h3, h4⟩ := mkAV_cells hA h5
          have run : ∀ V, (part e' vs.toArray (z.toNat * j.size)).run P w = .ok V w → (Instr.index t (.agg vs.toArray) (.int kz z)).run P w = .ok V w := fun V hV => by
            simp only [Instr.index, asIntOf, Sem.run_bind, Sem.run_pure, Result.andThen_ok, run_underlying hd, z0, z1, and_self, if_true, sizeOf_run he, hV]
          cases ha : j.agg with
          | true =>
            refine ⟨_, run _ ?_, h3 ha, rfl⟩
            simp only [part, Sem.run_bind, isAgg_run he, Result.andThen_ok, ha, if_true, sizeOf_run he, Sem.run_pure]
            congr 2
            apply Array.ext'
            rw [Array.toList_extract, List.extract_eq_take_drop]
            simp only [Nat.add_sub_cancel_left]
          | false =>
            obtain ⟨u, h6, h7⟩ := h4 ha
            refine ⟨u, run _ ?_, h7, rfl⟩
            have : vs[z.toNat * j.size]? = some u := by
              have := nth_cut (l := vs) (k := z.toNat * j.size) (n := j.size) (j := 0) (x := u) (by rw [h6]; rfl)
              simpa using this
            have h' : (vs.toArray)[z.toNat * j.size]? = some u := by simpa using this
            simp only [part, Sem.run_bind, isAgg_run he, Result.andThen_ok, ha, Bool.false_eq_true, if_false, h', Sem.run_pure]
        · exact (fail_eval h).elim
      · exact (fail_eval h).elim
    · rename_i s hs
      obtain rfl : X = _ := hx
      rcases cond_eval h with ⟨hr, h⟩ | ⟨_, h⟩
      · obtain ⟨z0, z1⟩ := inRange_spec hr
        obtain ⟨d, hd, hu2⟩ := und_run ht
        rw [hs] at hu2
        cases d <;> first | (cases hu2; done) | skip
        have hlt : z.toNat < s.size := by omega
        have hget : s[z.toNat]? = some s[z.toNat] := by rw [getElem?_pos]
        refine gives_ret h (V := .int .u8 ((s.data.getD z.toNat 0).toNat : Nat)) ?_ rfl
        simp only [Instr.index, asIntOf, Sem.run_bind, Sem.run_pure, Result.andThen_ok, run_underlying hd, z0, if_true, hget]
        congr 3
        have hlt' : z.toNat < s.data.size := hlt
        have : s.data.getD z.toNat 0 = s[z.toNat] := by
          rw [Array.getD_eq_getD_getElem?, Array.getElem?_eq_getElem hlt']; rfl
        rw [this]
      · exact (fail_eval h).elim
    · exact (fail_eval h).elim
  · exact (fail_eval h).elim
end
end Go.Proofs.Ytmffnlcmklapmaa.Mx

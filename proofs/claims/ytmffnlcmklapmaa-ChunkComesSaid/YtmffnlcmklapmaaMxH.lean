/- The interpreter's operations that make no block do what the model's do (own work). -/
import Derived.Test.YtmffnlcmklapmaaMxG
namespace Go.Proofs.Ytmffnlcmklapmaa.Mx
open Go
set_option autoImplicit false
set_option linter.unusedVariables false
set_option linter.unusedSimpArgs false
variable {P : Program}
section
variable {mt : Nat → Prop} {g : Gh} {H H' : HF} {w : World} {base : Nat} {fp fp' : FP} {v : SV}
theorem get_eval {α : Type} {n : Nat} {k : Obj → MA α} {a : α} (h : (MA.get n k).eval base H fp = some (a, H', fp')) : ∃ o, H n = some o ∧ (k o).eval base H ⟨n :: fp.reads, fp.writes⟩ = some (a, H', fp') := by
  simp only [MA.eval] at h
  cases ho : H n with
  | none => rw [ho] at h; cases h
  | some o => rw [ho] at h; exact ⟨o, rfl, h⟩
theorem un_does {op : UnOp} {x : SV} {X : Value} (hx : SVR g w.heap x X) (h : (unM op x).eval base H fp = some (v, H', fp')) : Gives P g H H' w v (Op.unary op X) := by
  unfold unM at h
  split at h
  · obtain rfl : X = _ := hx
    split at h
    · exact gives_ret h (by simp [Op.unary, Op.intArith]) rfl
    · exact (fail_eval h).elim
  · obtain rfl : X = _ := hx
    split at h
    · exact gives_ret h (by simp [Op.unary]) rfl
    · exact (fail_eval h).elim
  · exact (fail_eval h).elim
/-- Bytes, one by one. -/
theorem bytes_read {ro : Nat → Prop} {hp : HP} : ∀ (l : List Int) (vs : List Value), RdL (Rd ro hp (.int .u8)) l vs → vs = l.map (Value.int .u8)
  | [], vs, h => h
  | x :: l, vs, ⟨u, r, h1, h2, h3⟩ => by
    obtain rfl : u = [.int .u8 x] := h2
    rw [h1, bytes_read l r h3]
    rfl
theorem foldl_bytes : ∀ (l : List Int) (s : ByteArray), l.foldl (fun r n => r.push (UInt8.ofNat n.toNat)) s = ⟨s.data ++ (l.map fun n => UInt8.ofNat n.toNat).toArray⟩
  | [], ⟨d⟩ => congrArg ByteArray.mk (Array.append_empty (xs := d)).symm
  | x :: l, ⟨d⟩ => by
    rw [List.foldl_cons, foldl_bytes l]
    refine congrArg ByteArray.mk ?_
    show (d.push _) ++ _ = _
    rw [List.map_cons, Array.push_eq_append, Array.append_assoc]
    congr 1
    simp
theorem bytesToString_run {l : List Int} {A : Option Addr} {c : Nat} (hA : l ≠ [] → ∃ b o cs t fz rest, A = some ⟨b, o, none⟩ ∧ w.heap[b]? = some (.cells cs t fz) ∧ cs.toList.drop o = l.map (Value.int .u8) ++ rest) :
    (Conv.bytesToString (.slice A l.length c)).run P w = .ok (.string (bytesOf l)) w := by
  have hb : ∀ m : List Int, m.foldl (fun r n => r.push (UInt8.ofNat n.toNat)) ByteArray.empty = bytesOf m := fun m => by
    rw [foldl_bytes]
    exact congrArg ByteArray.mk (by show (#[] : Array UInt8) ++ _ = _; exact Array.empty_append)
  cases l with
  | nil =>
    cases A with
    | none => simp only [Conv.bytesToString, Sem.run_pure]; rfl
    | some a => rw [run_bytesToString w a _ c [] (by simp [loadCells, loadCellsFrom])]; rfl
  | cons x l =>
    obtain ⟨b, o, cs, t, fz, rest, rfl, hh, hd⟩ := hA (by simp)
    have hl : (loadCells ⟨b, o, none⟩ ((x :: l).map (Value.int .u8)).length).run P w = .ok ((x :: l).map (Value.int .u8)).toArray w := by
      refine run_loadCells_list (P := P) w ⟨b, o, none⟩ _ fun j u hj => ?_
      have hadd : (⟨b, o, none⟩ : Addr).add j = ⟨b, o + j, none⟩ := by unfold Addr.add; split <;> first | (subst_vars; rfl) | rfl
      rw [hadd, cell_blk hh, ← List.getElem?_drop, hd, List.getElem?_append_left (List.getElem?_eq_some_iff.1 hj).1]
      exact hj
    rw [List.length_map] at hl
    rw [run_bytesToString w _ _ c (x :: l) hl, hb]
/-- What a row of the call's own reads as. -/
theorem arr_row {Q : Pl} {e : Ty} {l : List e.T} (h : ArrR g w.heap Q e l) : l ≠ [] → ∃ b cs t fz us rest, Q.base = some ⟨b, 0, none⟩ ∧ w.heap[b]? = some (.cells cs t fz) ∧ cs.toList = us ++ rest ∧ RdL (Rd g.ro w.heap e) l us := fun hl => by
  obtain ⟨h1, h2, h3, h4⟩ := h
  cases hb : Q.blk with
  | none => rw [hb] at h4; rw [h1] at h4; exact absurd (List.length_eq_zero_iff.1 h4.1) hl
  | some b =>
    rw [hb] at h4
    obtain ⟨h5, vs, t, us, rest, h6, h7, h8, h9⟩ := h4
    exact ⟨b, vs, t, (0, 0), us, rest, h5, h6, h7, h8⟩
theorem isBytes_spec {tis : List (Nat × TI)} (T : TIs P tis) {s : Nat} {i : TI} (hs : TIok P s i) (h : isBytes tis i.und = true) : ∃ e, P.underlying s = some (.slice e) ∧ P.underlying e = some (.int .u8) := by
  unfold isBytes at h
  split at h
  · rename_i e he
    obtain ⟨d, hd, hu⟩ := und_run hs
    rw [he] at hu
    cases d <;> first | (cases hu; done) | (injection hu with hu; subst hu)
    split at h
    · rename_i i' hi'
      split at h
      · rename_i hk
        obtain ⟨d', hd', hu'⟩ := und_run (T _ _ hi')
        rw [hk] at hu'
        cases d' <;> first | (cases hu'; done) | (injection hu' with hu'; subst hu')
        exact ⟨_, hd, hd'⟩
      · cases h
    · cases h
  · cases h
theorem conv_does {tis : List (Nat × TI)} {s d : Nat} {i j : TI} {x : SV} {X : Value} (T : TIs P tis) (hs : TIok P s i) (hd : TIok P d j) (M : Mem mt g H w.heap) (hx : SVR g w.heap x X) (h : (convM tis i.und j.und x).eval base H fp = some (v, H', fp')) :
    Gives P g H H' w v (convert s d X) := by
  obtain ⟨ds, hds, us⟩ := und_run hs
  obtain ⟨dd, hdd, ud⟩ := und_run hd
  have str : ∀ {l : List Int} {A : Option Addr} {c : Nat}, j.und = .str → isBytes tis i.und = true → (l ≠ [] → ∃ b o cs t fz rest, A = some ⟨b, o, none⟩ ∧ w.heap[b]? = some (.cells cs t fz) ∧ cs.toList.drop o = l.map (Value.int .u8) ++ rest) →
      (convert s d (.slice A l.length c)).run P w = .ok (.string (bytesOf l)) w := fun {l A c} hj hb hA => by
    obtain ⟨e, h1, h2⟩ := isBytes_spec T hs hb
    rw [hj] at ud
    cases dd <;> first | (cases ud; done) | skip
    rw [run_convert_bytes_string w s d e A _ c h1 h2 hdd]
    exact bytesToString_run hA
  unfold convM at h
  split at h
  · obtain rfl : X = _ := hx
    split at h
    · rename_i k hk
      rw [hk] at ud
      cases dd <;> first | (cases ud; done) | (injection ud with ud; subst ud)
      exact gives_ret h (by simp only [convert, Sem.run_bind, run_underlying hds, run_underlying hdd, Result.andThen_ok]; rfl) rfl
    · rename_i hk
      rw [hk] at ud
      cases dd <;> first | (cases ud; done) | (injection ud with ud; subst ud)
      rcases cond_eval h with ⟨hb, h⟩ | ⟨_, h⟩
      · exact gives_ret h (run_convert_int_float (P := P) w s d _ _ _ (by simp [hds]) hdd) ⟨_, rfl, YtmffnlcmklapmaaF.ofInt_rep _ (small_lt hb)⟩
      · exact (fail_eval h).elim
    · exact (fail_eval h).elim
  · rename_i n
    obtain ⟨b, rfl, hr⟩ := (hx : VR g w.heap (.fint n) X)
    split at h
    · rename_i hk
      rw [hk] at ud
      cases dd <;> first | (cases ud; done) | (injection ud with ud; subst ud)
      rcases cond_eval h with ⟨hb, h⟩ | ⟨_, h⟩
      · have := small_lt hb
        exact gives_ret h (run_convert_float_int (P := P) w s d .f64 .i64 b n (by simp [hds]) hdd (YtmffnlcmklapmaaF.toInt_rep hr (by omega) (by omega))) rfl
      · exact (fail_eval h).elim
    · exact (fail_eval h).elim
  · rename_i l
    obtain ⟨A, c, hv, hc, hr⟩ := (hx : Rd g.ro w.heap (.row (.int .u8)) l [X])
    simp only [List.cons.injEq, and_true] at hv
    subst hv
    split at h
    · rename_i hj
      cases hb : isBytes tis i.und with
      | false => rw [hb] at h; exact (fail_eval h).elim
      | true =>
        rw [hb] at h
        refine gives_ret h (str hj hb fun hl => ?_) rfl
        obtain ⟨b, o, cs, t, fz, us, rest, h1, h2, h3, h4, h5⟩ := hr hl
        exact ⟨b, o, cs, t, fz, rest, h1, h3, by rw [h4, bytes_read _ us h5]⟩
    · exact (fail_eval h).elim
  · obtain rfl : X = _ := hx
    split at h
    · rename_i hj
      cases hb : isBytes tis i.und with
      | false => rw [hb] at h; exact (fail_eval h).elim
      | true => rw [hb] at h; exact gives_ret h (str (l := []) (A := none) (c := 0) hj hb fun hl => absurd rfl hl) rfl
    · exact (fail_eval h).elim
  · rename_i n
    obtain ⟨Q, hQ, rfl⟩ := (hx : VR g w.heap (.own n) X)
    split at h
    · rename_i hj
      cases hb : isBytes tis i.und with
      | false => rw [hb] at h; exact (fail_eval h).elim
      | true =>
        rw [hb] at h
        obtain ⟨o, ho, h⟩ := get_eval h
        obtain ⟨Q', hQ', hO⟩ := M.obj n o ho
        rw [hQ] at hQ'
        cases hQ'
        have fin : ∀ l : List Int, ArrR g w.heap Q (.int .u8) l → (convert s d (.slice Q.base Q.len Q.cap)).run P w = .ok (.string (bytesOf l)) w := fun l hA => by
          rw [hA.1]
          refine str hj hb fun hl => ?_
          obtain ⟨b, cs, t, fz, us, rest, h1, h2, h3, h4⟩ := arr_row hA hl
          exact ⟨b, 0, cs, t, fz, rest, h1, h2, by rw [List.drop_zero, h3, bytes_read _ us h4]⟩
        split at h
        · exact gives_ret h (fin _ hO) rfl
        · exact gives_ret h (fin _ hO) rfl
        · exact (fail_eval h).elim
    · exact (fail_eval h).elim
  · exact (fail_eval h).elim
theorem inRange_spec {z : Int} {n : Nat} (h : inRange z n = true) : 0 ≤ z ∧ z < n := by simpa [inRange] using h
theorem idx_run {t e : Nat} {i j : TI} {z : Int} {k : IntKind} {A : Option Addr} {len cap b o : Nat} (ht : TIok P t i) (he : TIok P e j) (hu : i.und = .slice e) (hz : 0 ≤ z ∧ z < len) (hA : A = some ⟨b, o, none⟩) :
    (Instr.indexAt t (.slice A len cap) (.int k z)).run P w = .ok (.pointer (some ⟨b, o + z.toNat * j.size, none⟩)) w := by
  obtain ⟨d, hd, hu2⟩ := und_run ht
  rw [hu] at hu2
  cases d <;> first | (cases hu2; done) | (injection hu2 with hu2; subst hu2)
  subst hA
  have hadd : ∀ q, (⟨b, o, none⟩ : Addr).add q = ⟨b, o + q, none⟩ := fun q => by unfold Addr.add; split <;> first | (subst_vars; rfl) | rfl
  simp only [Instr.indexAt, asIntOf, Sem.run_bind, Sem.run_pure, Result.andThen_ok, run_underlying hd, hz, and_self, if_true, sizeOf_run he, hadd]
theorem eptr_of {n k : Nat} {Q : Pl} {e : Ty} {l : List e.T} {b s : Nat} (hQ : g.φ n = some Q) (hA : ArrR g w.heap Q e l) (hk : k < l.length) (hs : e.size = s) :
    ∃ b, Q.blk = some b ∧ Q.base = some ⟨b, 0, none⟩ ∧ VR g w.heap (.eptr n k 0) (.pointer (some ⟨b, k * s, none⟩)) := by
  obtain ⟨h1, h2, h3, h4⟩ := hA
  cases hb : Q.blk with
  | none => rw [hb] at h4; omega
  | some b =>
    rw [hb] at h4
    exact ⟨b, rfl, h4.1, Q, b, hQ, hb, by omega, by rw [h2, hs]; rfl⟩
theorem idx_does {t e : Nat} {i j : TI} {x y : SV} {X Y : Value} (ht : TIok P t i) (he : TIok P e j) (hu : i.und = .slice e ∨ ∃ n, i.und = .arr n e) (M : Mem mt g H w.heap) (hx : SVR g w.heap x X) (hy : SVR g w.heap y Y)
    (h : (idxM i.und j.size x y).eval base H fp = some (v, H', fp')) : Gives P g H H' w v (Instr.indexAt t X Y) := by
  unfold idxM at h
  split at h
  · rename_i kz z
    obtain rfl : Y = _ := hy
    split at h
    · -- a row
      rename_i e' q l hsl
      obtain rfl : e' = e := by rcases hu with hu | ⟨n, hu⟩ <;> rw [hsl] at hu <;> cases hu; rfl
      cases hb : Nat.beq q.size j.size with
      | false => rw [hb] at h; exact (fail_eval h).elim
      | true =>
        rw [hb] at h
        rcases cond_eval h with ⟨hr, h⟩ | ⟨_, h⟩
        · obtain ⟨z0, z1⟩ := inRange_spec hr
          obtain ⟨A, c, hv, hc, hrow⟩ := (hx : Rd g.ro w.heap (.row q) l [X])
          simp only [List.cons.injEq, and_true] at hv
          subst hv
          obtain ⟨b, o, cs, ty, fz, us, rest, h1, h2, h3, h4, h5⟩ := hrow (by rintro rfl; simp at z1; omega)
          refine gives_ret h (idx_run ht he hsl ⟨z0, z1⟩ h1) ⟨b, o, cs, ty, fz, us, rest, ?_, h2, h3, h4, h5, by omega⟩
          rw [beq_eq hb, Nat.add_zero]
        · exact (fail_eval h).elim
    · -- a row of the call's own
      rename_i e' n hsl
      obtain rfl : e' = e := by rcases hu with hu | ⟨n, hu⟩ <;> rw [hsl] at hu <;> cases hu; rfl
      obtain ⟨Q, hQ, rfl⟩ := (hx : VR g w.heap (.own n) X)
      obtain ⟨o, ho, h⟩ := get_eval h
      obtain ⟨Q', hQ', hO⟩ := M.obj n o ho
      rw [hQ] at hQ'
      cases hQ'
      have fin : ∀ {q : Ty} {l : List q.T} {fp : FP}, ArrR g w.heap Q q l → (Bool.casesOn (Nat.beq q.size j.size) .fail (.cond (inRange z l.length) (ret (.eptr n z.toNat 0)) .fail) : MA SV).eval base H fp = some (v, H', fp') → Gives P g H H' w v (Instr.indexAt e' (.slice Q.base Q.len Q.cap) (.int kz z)) → True := fun _ _ _ => trivial
      split at h
      · rename_i q l
        cases hb : Nat.beq q.size j.size with
        | false => rw [hb] at h; exact (fail_eval h).elim
        | true =>
          rw [hb] at h
          rcases cond_eval h with ⟨hr, h⟩ | ⟨_, h⟩
          · obtain ⟨z0, z1⟩ := inRange_spec hr
            obtain ⟨b, b1, b2, b3⟩ := eptr_of (b := 0) hQ (hO : ArrR g w.heap Q q l) (k := z.toNat) (by omega) (beq_eq hb)
            refine gives_ret h (idx_run ht he hsl ⟨z0, by have := (hO : ArrR g w.heap Q q l).1; omega⟩ b2) ?_
            rw [Nat.zero_add]; exact b3
          · exact (fail_eval h).elim
      · rename_i q l
        cases hb : Nat.beq q.size j.size with
        | false => rw [hb] at h; exact (fail_eval h).elim
        | true =>
          rw [hb] at h
          rcases cond_eval h with ⟨hr, h⟩ | ⟨_, h⟩
          · obtain ⟨z0, z1⟩ := inRange_spec hr
            obtain ⟨b, b1, b2, b3⟩ := eptr_of (b := 0) hQ (hO : ArrR g w.heap Q q l) (k := z.toNat) (by omega) (beq_eq hb)
            refine gives_ret h (idx_run ht he hsl ⟨z0, by have := (hO : ArrR g w.heap Q q l).1; omega⟩ b2) ?_
            rw [Nat.zero_add]; exact b3
          · exact (fail_eval h).elim
      · exact (fail_eval h).elim
    · -- a part of one
      rename_i e' n lo hi hsl
      obtain rfl : e' = e := by rcases hu with hu | ⟨n, hu⟩ <;> rw [hsl] at hu <;> cases hu; rfl
      obtain ⟨Q, A, c, hQ, hlo, hhi, hcap, rfl, hA⟩ := (hx : VR g w.heap (.sub n lo hi) X)
      obtain ⟨o, ho, h⟩ := get_eval h
      obtain ⟨Q', hQ', hO⟩ := M.obj n o ho
      rw [hQ] at hQ'
      cases hQ'
      split at h
      · rename_i q l
        cases hb : Nat.beq q.size j.size with
        | false => rw [hb] at h; exact (fail_eval h).elim
        | true =>
          rw [hb] at h
          rcases cond_eval h with ⟨hr, h⟩ | ⟨_, h⟩
          · obtain ⟨z0, z1⟩ := inRange_spec hr
            obtain ⟨b, hb1, hb2⟩ := hA (by omega)
            have hO' : ArrR g w.heap Q q l := hO
            refine gives_ret h (idx_run ht he hsl ⟨z0, z1⟩ hb2) ⟨Q, b, hQ, hb1, by omega, ?_⟩
            have hqs : Q.size = j.size := by rw [hO'.2.1]; exact beq_eq hb
            rw [hqs, Nat.add_mul, Nat.add_zero]
          · exact (fail_eval h).elim
      · rename_i q l
        cases hb : Nat.beq q.size j.size with
        | false => rw [hb] at h; exact (fail_eval h).elim
        | true =>
          rw [hb] at h
          rcases cond_eval h with ⟨hr, h⟩ | ⟨_, h⟩
          · obtain ⟨z0, z1⟩ := inRange_spec hr
            obtain ⟨b, hb1, hb2⟩ := hA (by omega)
            have hO' : ArrR g w.heap Q q l := hO
            refine gives_ret h (idx_run ht he hsl ⟨z0, z1⟩ hb2) ⟨Q, b, hQ, hb1, by omega, ?_⟩
            have hqs : Q.size = j.size := by rw [hO'.2.1]; exact beq_eq hb
            rw [hqs, Nat.add_mul, Nat.add_zero]
          · exact (fail_eval h).elim
      · exact (fail_eval h).elim
    · -- an array in a box
      rename_i len e' n off harr
      obtain rfl : e' = e := by rcases hu with hu | ⟨n, hu⟩ <;> rw [harr] at hu <;> cases hu; rfl
      obtain ⟨Q, b, hQ, hb, rfl⟩ := (hx : VR g w.heap (.ptr n off) X)
      rcases cond_eval h with ⟨hr, h⟩ | ⟨_, h⟩
      · obtain ⟨z0, z1⟩ := inRange_spec hr
        obtain ⟨d, hd, hu2⟩ := und_run ht
        rw [harr] at hu2
        cases d <;> first | (cases hu2; done) | (injection hu2 with hu2 hu3; subst hu2 hu3)
        have hadd : ∀ q, (⟨b, off, none⟩ : Addr).add q = ⟨b, off + q, none⟩ := fun q => by unfold Addr.add; split <;> first | (subst_vars; rfl) | rfl
        refine gives_ret h (V := .pointer (some ⟨b, off + z.toNat * j.size, none⟩)) ?_ ⟨Q, b, hQ, hb, by omega, by rw [Nat.add_zero]⟩
        simp only [Instr.indexAt, asIntOf, Instr.sureAddr, Sem.run_bind, Sem.run_pure, Result.andThen_ok, run_underlying hd, z0, z1, and_self, if_true, sizeOf_run he, hadd]
      · exact (fail_eval h).elim
    · exact (fail_eval h).elim
  · exact (fail_eval h).elim
end
end Go.Proofs.Ytmffnlcmklapmaa.Mx

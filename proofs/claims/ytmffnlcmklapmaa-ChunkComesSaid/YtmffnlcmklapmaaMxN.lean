/- A reading by a shape carries what the values stand for (own work). -/
import Derived.Test.YtmffnlcmklapmaaMxM
namespace Go.Proofs.Ytmffnlcmklapmaa.Mx
open Go
set_option autoImplicit false
set_option linter.unusedVariables false
set_option linter.unusedSimpArgs false
universe u
def ksize : List (Nat × OF) → Nat → Nat
  | [], _ => 0
  | (k, .arr e) :: r, j => if k = j then e.size else ksize r j
  | (k, .box _) :: r, j => if k = j then 0 else ksize r j
/-- The places behind a reading. -/
def gE (s : Shape) (d : DS) (g : Gh) : Gh :=
  ⟨fun j => match aget d.asg j with
    | some (some n) => g.φ n
    | some none => some ⟨none, none, 0, 0, ksize s.ob j⟩
    | none => none,
   fun b => g.ro b ∨ ∃ n, n ∈ d.frz ∧ ∃ Q, g.φ n = some Q ∧ Q.blk = some b⟩
theorem gE_some {s : Shape} {d : DS} {g : Gh} {j n : Nat} (h : aget d.asg j = some (some n)) : (gE s d g).φ j = g.φ n := by simp only [gE, h]
theorem gE_none {s : Shape} {d : DS} {g : Gh} {j : Nat} (h : aget d.asg j = some none) : (gE s d g).φ j = some ⟨none, none, 0, 0, ksize s.ob j⟩ := by simp only [gE, h]
theorem All2.comp {α β γ : Type} {R : α → β → Prop} {S : β → γ → Prop} {T : α → γ → Prop} (h : ∀ x y z, R x y → S y z → T x z) : ∀ {l : List α} {m : List β} {k : List γ}, All2 R l m → All2 S m k → All2 T l k
  | [], [], [], _, _ => trivial
  | _ :: _, _ :: _, _ :: _, ⟨a, b⟩, ⟨c, d⟩ => ⟨h _ _ _ a c, All2.comp h b d⟩
  | [], _ :: _, _, h, _ => h.elim
  | _ :: _, [], _, h, _ => h.elim
  | [], [], _ :: _, _, h => h.elim
  | _ :: _, _ :: _, [], _, h => h.elim
section
variable {mt : Nat → Prop} {g : Gh} {H : HF} {hp : HP} {s : Shape} {m : List Nat} {d : DS}
theorem rows_Rd {e : Ty} {l : List e.T} {n : Nat} {Q : Pl} (M : Mem mt g H hp) (hn : n ∈ d.frz) (hQ : g.φ n = some Q) (hA : ArrR g hp Q e l) : l ≠ [] → ∃ b, Q.blk = some b ∧ Q.base = some ⟨b, 0, none⟩ ∧ (gE s d g).ro b ∧ ∃ cs t fz us rest, hp[b]? = some (.cells cs t fz) ∧ cs.toList = us ++ rest ∧ RdL (Rd (gE s d g).ro hp e) l us := fun hl => by
  obtain ⟨a1, a2, a3, a4⟩ := hA
  cases hb : Q.blk with
  | none => rw [hb] at a4; exact absurd (List.length_eq_zero_iff.1 (by omega)) hl
  | some b =>
    rw [hb] at a4
    obtain ⟨a5, vs, t, us, rest, a6, a7, a8, a9⟩ := a4
    exact ⟨b, rfl, a5, .inr ⟨n, hn, Q, hQ, hb⟩, vs, t, (0, 0), us, rest, a6, a7, RdL.mono (fun x vs => Rd.stab (fun b h => .inl h) (fun _ _ => rfl) e x vs) l us a8⟩
theorem RelC.VR0 {c c' : CV} {v : Value} (hnp : ∀ e l i o, c ≠ .rptr e l i o) (M : Mem mt g H hp) (hr : RelC H d c c') (hv : Mx.VR g hp c' v) : Mx.VR (gE s d g) hp c v := by
  cases c with
  | int k n => cases hr; exact hv
  | bool b => cases hr; exact hv
  | str b => cases hr; exact hv
  | fint n => cases hr; exact hv
  | cint x y => cases hr; exact hv
  | nilp => cases hr; exact hv
  | nilf => cases hr; exact hv
  | nili => cases hr; exact hv
  | nils => cases hr; exact hv
  | ptr j o =>
    obtain ⟨n, h1, rfl⟩ := hr
    obtain ⟨Q, b, h2, h3, h4⟩ := hv
    exact ⟨Q, b, by rw [gE_some h1]; exact h2, h3, h4⟩
  | own j =>
    rcases hr with ⟨n, h1, rfl⟩ | ⟨h1, rfl⟩
    · obtain ⟨Q, h2, h3⟩ := hv
      exact ⟨Q, by rw [gE_some h1]; exact h2, h3⟩
    · exact ⟨_, gE_none h1, hv⟩
  | fn f js =>
    obtain ⟨ns, rfl, h1⟩ := hr
    obtain ⟨vs, h2, h3⟩ := hv
    refine ⟨vs, h2, All2.comp (fun j n u hj hu => ?_) h1 h3⟩
    obtain ⟨Q, b, k1, k2, k3⟩ := hu
    exact ⟨Q, b, by rw [gE_some hj]; exact k1, k2, k3⟩
  | row e l =>
    rcases hr with rfl | ⟨rfl, rfl⟩ | ⟨n, hn, hrow, rfl⟩ | ⟨n, lo, hi, l0, hn, hrow, rfl, rfl⟩ | ⟨n, off, len, stride, lo, hi, hn, hb, rfl⟩
    · exact Rd.stab (fun b h => .inl h) (fun _ _ => rfl) (.row e) l [v] hv
    · obtain rfl : v = _ := hv
      exact ⟨none, 0, rfl, Nat.le_refl _, fun h => absurd rfl h⟩
    · obtain ⟨Q, hQ, rfl⟩ := hv
      have hA : ArrR g hp Q e l := by
        rcases rowOf_spec hrow with ho | ho
        · obtain ⟨Q', hQ', hO⟩ := M.obj n _ ho; rw [hQ] at hQ'; cases hQ'; exact hO
        · obtain ⟨Q', hQ', hO⟩ := M.obj n _ ho; rw [hQ] at hQ'; cases hQ'; exact hO
      refine ⟨Q.base, Q.cap, by rw [hA.1], by rw [← hA.1]; exact hA.2.2.1, fun hl => ?_⟩
      obtain ⟨b, h1, h2, h3, cs, t, fz, us, rest, h4, h5, h6⟩ := rows_Rd (s := s) M hn hQ hA hl
      exact ⟨b, 0, cs, t, fz, us, rest, h2, h3, h4, by rw [List.drop_zero, h5], h6⟩
    · obtain ⟨Q, A, c, hQ, hlo, hhi, hcap, rfl, hA0⟩ := hv
      have hA : ArrR g hp Q e l0 := by
        rcases rowOf_spec hrow with ho | ho
        · obtain ⟨Q', hQ', hO⟩ := M.obj n _ ho; rw [hQ] at hQ'; cases hQ'; exact hO
        · obtain ⟨Q', hQ', hO⟩ := M.obj n _ ho; rw [hQ] at hQ'; cases hQ'; exact hO
      have hlen : ((l0.take hi).drop lo).length = hi - lo := by rw [List.length_drop, List.length_take, ← hA.1]; omega
      refine ⟨A, c, by rw [hlen], by rw [hlen]; exact hcap, fun hl => ?_⟩
      have hlt : lo < hi := by
        rcases Nat.lt_or_ge lo hi with h' | h'
        · exact h'
        · exact absurd (List.length_eq_zero_iff.1 (by rw [hlen]; omega)) hl
      obtain ⟨b, hb1, hb2⟩ := hA0 hlt
      obtain ⟨b', h1, h2, h3, cs, t, fz, us, rest, h4, h5, h6⟩ := rows_Rd (s := s) M hn hQ hA (by rintro rfl; have := hA.1; simp at this; omega)
      rw [hb1] at h1
      cases h1
      have hul := RdL.length l0 us h6
      have hle : lo * e.size ≤ hi * e.size := Nat.mul_le_mul_right _ (by omega)
      have hle2 : hi * e.size ≤ l0.length * e.size := Nat.mul_le_mul_right _ (by rw [← hA.1]; exact hhi)
      refine ⟨b, lo * Q.size, cs, t, fz, (us.take (hi * e.size)).drop (lo * e.size), us.drop (hi * e.size) ++ rest, hb2, h3, h4, ?_, RdL.take_drop l0 us lo hi h6 (by rw [← hA.1]; exact hhi)⟩
      rw [hA.2.1, h5]
      conv => lhs; rw [← List.take_append_drop (hi * e.size) us]
      rw [List.append_assoc, List.drop_append_of_le_length (by rw [List.length_take]; omega)]
    · obtain ⟨Q, b, A, c, hQ, hb1, hlo, hhi, hk, rfl, hA⟩ := hv
      unfold bsubOf at hb
      split at hb
      · rename_i cs hcs
        split at hb
        · rename_i l' hcut
          split at hb
          · rename_i q hdec
            cases hst : Nat.beq stride e.size with
            | false => rw [hst] at hb; cases hb
            | true =>
              rw [hst] at hb
              simp only [Option.some.injEq] at hb
              subst hb
              obtain ⟨Q', hQ', b', vs, t, q1, q2, q3⟩ := M.obj n _ hcs
              rw [hQ] at hQ'; cases hQ'
              rw [hb1] at q1; cases q1
              obtain ⟨k1, k2⟩ := cut_VR q3 hcut
              obtain ⟨k3, k4⟩ := decL_Rd len l' _ q k1 hdec
              have hlen : ((q.take hi).drop lo).length = hi - lo := by rw [List.length_drop, List.length_take, k4]; omega
              refine ⟨A, c, by rw [hlen], by rw [hlen]; exact hk, fun hl => ?_⟩
              have hlt : lo < hi := by
                rcases Nat.lt_or_ge lo hi with h' | h'
                · exact h'
                · exact absurd (List.length_eq_zero_iff.1 (by rw [hlen]; omega)) hl
              have hle : lo * e.size ≤ hi * e.size := Nat.mul_le_mul_right _ (by omega)
              have hle2 : hi * e.size ≤ len * e.size := Nat.mul_le_mul_right _ (by omega)
              have htd := RdL.take_drop q _ lo hi k3 (by rw [k4]; exact hhi)
              obtain ⟨U, hU⟩ : ∃ U, U = (vs.toList.drop off).take (len * e.size) := ⟨_, rfl⟩
              rw [← hU] at htd k2
              refine ⟨b, off + lo * stride, vs, t, (0, 0), (U.take (hi * e.size)).drop (lo * e.size), U.drop (hi * e.size) ++ (vs.toList.drop off).drop (len * e.size), hA hlt, .inr ⟨n, hn, Q, hQ, hb1⟩, q2, ?_, RdL.mono (fun x vs => Rd.stab (fun b h => .inl h) (fun _ _ => rfl) e x vs) _ _ htd⟩
              rw [← List.drop_drop, beq_eq hst]
              conv => lhs; rw [← List.take_append_drop (len * e.size) (vs.toList.drop off), ← hU]
              have hUl : U.length = len * e.size := k2
              conv => lhs; rw [← List.take_append_drop (hi * e.size) U]
              rw [List.append_assoc, List.drop_append_of_le_length (by rw [List.length_take]; omega)]
          · cases hb
        · cases hb
      · cases hb
  | dead => trivial
  | eptr j i o =>
    obtain ⟨n, h1, rfl⟩ := hr
    obtain ⟨Q, b, h2, h3⟩ := hv
    exact ⟨Q, b, by rw [gE_some h1]; exact h2, h3⟩
  | aptr _ _ _ _ _ _ => exact hr.elim
  | sub _ _ _ => exact hr.elim
  | bsub _ _ _ _ _ _ => exact hr.elim
  | rptr e l i o => exact absurd rfl (hnp e l i o)
  | ifc _ _ _ => exact hr.elim
theorem thaw_VR {c c' : CV} {ns : List Nat} {v : Value} (M : Mem mt g H hp) (hc : thawC H c = some (c', ns)) (hns : ∀ k, k ∈ ns → k ∈ d.frz) (hv : Mx.VR g hp c v) : Mx.VR (gE s d g) hp c' v := by
  have row : ∀ {e : Ty} {k : Nat} {l : List e.T}, (H k = some (.arr e l) ∨ H k = some (.ice e l)) → rowOf H e k = some l := fun h => by
    rcases h with h | h <;> simp [rowOf, h]
  unfold thawC at hc
  split at hc <;> (try split at hc) <;> first | (cases hc; done) | skip
  all_goals (simp only [Option.some.injEq, Prod.mk.injEq] at hc; obtain ⟨rfl, rfl⟩ := hc)
  · exact RelC.VR0 (fun _ _ _ _ h => by cases h) M (c' := .own _) (.inr (.inr (.inl ⟨_, hns _ (List.mem_singleton.2 rfl), row (.inl (by assumption)), rfl⟩))) hv
  · exact RelC.VR0 (fun _ _ _ _ h => by cases h) M (c' := .own _) (.inr (.inr (.inl ⟨_, hns _ (List.mem_singleton.2 rfl), row (.inr (by assumption)), rfl⟩))) hv
  · exact RelC.VR0 (fun _ _ _ _ h => by cases h) M (c' := .sub _ _ _) (.inr (.inr (.inr (.inl ⟨_, _, _, _, hns _ (List.mem_singleton.2 rfl), row (.inl (by assumption)), rfl, rfl⟩)))) hv
  · exact RelC.VR0 (fun _ _ _ _ h => by cases h) M (c' := .sub _ _ _) (.inr (.inr (.inr (.inl ⟨_, _, _, _, hns _ (List.mem_singleton.2 rfl), row (.inr (by assumption)), rfl, rfl⟩)))) hv
  · exact RelC.VR0 (fun _ _ _ _ h => by cases h) M (c' := .int _ _) rfl hv
  · exact RelC.VR0 (fun _ _ _ _ h => by cases h) M (c' := .bool _) rfl hv
  · exact RelC.VR0 (fun _ _ _ _ h => by cases h) M (c' := .str _) rfl hv
  · exact RelC.VR0 (fun _ _ _ _ h => by cases h) M (c' := .row _ _) (.inl rfl) hv
  · exact RelC.VR0 (fun _ _ _ _ h => by cases h) M (c' := .nils) rfl hv
theorem thaws_VR (M : Mem mt g H hp) : ∀ (cs cs' : List CV) (ns : List Nat) (vs : List Value), thawCs H cs = some (cs', ns) → (∀ k, k ∈ ns → k ∈ d.frz) → All2 (Mx.VR g hp) cs vs → All2 (Mx.VR (gE s d g) hp) cs' vs
  | [], cs', ns, [], hc, _, _ => by
    simp only [thawCs, Option.some.injEq, Prod.mk.injEq] at hc
    rw [← hc.1]; trivial
  | c :: cs, cs', ns, v :: vs, hc, hns, ⟨h1, h2⟩ => by
    unfold thawCs at hc
    split at hc
    · rename_i c1 n1 k1
      split at hc
      · rename_i c2 n2 k2
        simp only [Option.some.injEq, Prod.mk.injEq] at hc
        obtain ⟨rfl, rfl⟩ := hc
        exact ⟨thaw_VR M k1 (fun k hk => hns k (List.mem_append_left _ hk)) h1, thaws_VR M cs c2 n2 vs k2 (fun k hk => hns k (List.mem_append_right _ hk)) h2⟩
      · cases hc
    · cases hc
  | [], _, _, _ :: _, _, _, h => h.elim
  | _ :: _, _, _, [], _, _, h => h.elim
theorem RelC.VR {c c' : CV} {v : Value} (M : Mem mt g H hp) (hr : RelC H d c c') (hv : Mx.VR g hp c' v) : Mx.VR (gE s d g) hp c v := by
  cases c with
  | rptr e l i o =>
    obtain ⟨rfl, rfl, hr⟩ := hr
    rcases hr with ⟨x, n, ns, rfl, rfl, hn, hns, hx⟩ | ⟨l0, j, rfl, rfl⟩
    · obtain ⟨Q, b, h1, h2, rfl⟩ := hv
      unfold boxOf at hx
      split at hx
      · rename_i cs hcs
        split at hx
        · rename_i cs' ms hms
          split at hx
          · rename_i x' hdec
            simp only [Option.some.injEq, Prod.mk.injEq] at hx
            obtain ⟨rfl, rfl⟩ := hx
            obtain ⟨Q', hQ', b', vs, t, q1, q2, q3⟩ := M.obj n _ hcs
            rw [h1] at hQ'; cases hQ'
            rw [h2] at q1; cases q1
            obtain ⟨u, w, hu, hR, hw⟩ := dec_Rd e cs' vs.toList x' [] (thaws_VR (s := s) M cs cs' _ vs.toList hms hns q3) hdec
            refine ⟨b, 0, vs, t, (0, 0), u, w, by simp, .inr ⟨n, hn, Q, h1, h2⟩, q2, by rw [List.drop_zero, hu], ⟨u, [], by simp, hR, rfl⟩, Nat.zero_lt_one⟩
          · cases hx
        · cases hx
      · cases hx
    · obtain ⟨b, o, cs, t, fz, us, rest, rfl, h2, h3, h4, h5, h6⟩ := hv
      obtain ⟨u, k1, k2⟩ := RdL.get l0 us j e.dflt h5 h6
      have hlen := RdL.length l0 us h5
      have hle : j * e.size ≤ us.length := by rw [hlen]; exact Nat.mul_le_mul_right _ (Nat.le_of_lt h6)
      refine ⟨b, o + j * e.size, cs, t, fz, u, (us.drop (j * e.size)).drop e.size ++ rest, by simp, .inl h2, h3, ?_, ⟨u, [], by simp, Rd.stab (fun b h => .inl h) (fun _ _ => rfl) e _ u k2, rfl⟩, Nat.zero_lt_one⟩
      rw [← List.drop_drop, h4, List.drop_append_of_le_length hle, ← k1, ← List.append_assoc, List.take_append_drop]
  | int _ _ => exact RelC.VR0 (fun _ _ _ _ h => by cases h) M hr hv
  | bool _ => exact RelC.VR0 (fun _ _ _ _ h => by cases h) M hr hv
  | str _ => exact RelC.VR0 (fun _ _ _ _ h => by cases h) M hr hv
  | fint _ => exact RelC.VR0 (fun _ _ _ _ h => by cases h) M hr hv
  | cint _ _ => exact RelC.VR0 (fun _ _ _ _ h => by cases h) M hr hv
  | nilp => exact RelC.VR0 (fun _ _ _ _ h => by cases h) M hr hv
  | nilf => exact RelC.VR0 (fun _ _ _ _ h => by cases h) M hr hv
  | nili => exact RelC.VR0 (fun _ _ _ _ h => by cases h) M hr hv
  | nils => exact RelC.VR0 (fun _ _ _ _ h => by cases h) M hr hv
  | ptr _ _ => exact RelC.VR0 (fun _ _ _ _ h => by cases h) M hr hv
  | eptr _ _ _ => exact RelC.VR0 (fun _ _ _ _ h => by cases h) M hr hv
  | aptr _ _ _ _ _ _ => exact RelC.VR0 (fun _ _ _ _ h => by cases h) M hr hv
  | own _ => exact RelC.VR0 (fun _ _ _ _ h => by cases h) M hr hv
  | sub _ _ _ => exact RelC.VR0 (fun _ _ _ _ h => by cases h) M hr hv
  | bsub _ _ _ _ _ _ => exact RelC.VR0 (fun _ _ _ _ h => by cases h) M hr hv
  | row _ _ => exact RelC.VR0 (fun _ _ _ _ h => by cases h) M hr hv
  | fn _ _ => exact RelC.VR0 (fun _ _ _ _ h => by cases h) M hr hv
  | ifc _ _ _ => exact RelC.VR0 (fun _ _ _ _ h => by cases h) M hr hv
  | dead => exact RelC.VR0 (fun _ _ _ _ h => by cases h) M hr hv
theorem RelA.AVR {a a' : AV} {v : Value} (M : Mem mt g H hp) (hr : RelA H d a a') (hv : Mx.AVR g hp a' v) : Mx.AVR (gE s d g) hp a v := by
  cases a with
  | c x => cases a' with
    | c y => exact RelC.VR M hr hv
    | agg _ => exact hr.elim
  | agg xs => cases a' with
    | c y => exact hr.elim
    | agg ys =>
      obtain ⟨vs, h1, h2⟩ := hv
      exact ⟨vs, h1, All2.comp (R := RelC H d) (S := Mx.VR g hp) (T := Mx.VR (gE s d g) hp) (fun _ _ _ p q => RelC.VR M p q) hr h2⟩
/-! ### the objects behind a reading -/
theorem ob_mem : ∀ {ss : List (Nat × OF)} {os : Heap} {j : Nat} {o : Obj}, All2 (RelB H d) ss os → hget os j = some o → ∃ x, x ∈ ss ∧ x.1 = j ∧ RelB H d x (j, o)
  | [], [], _, _, _, h => by cases h
  | x :: ss, (k, o') :: os, j, o, ⟨hx, hr⟩, h => by
    rw [hget_cons] at h
    by_cases e : k = j
    · rw [if_pos e] at h; cases h; subst e; exact ⟨x, List.mem_cons_self, hx.1, hx⟩
    · rw [if_neg e] at h
      obtain ⟨y, h1, h2, h3⟩ := ob_mem hr h
      exact ⟨y, List.mem_cons_of_mem _ h1, h2, h3⟩
  | [], _ :: _, _, _, h, _ => h.elim
  | _ :: _, [], _, _, h, _ => h.elim
theorem ksize_of : ∀ {ss : List (Nat × OF)} {j : Nat} {e : Ty}, nodupK ss = true → (j, .arr e) ∈ ss → ksize ss j = e.size
  | [], _, _, _, h => by cases h
  | (k, f) :: r, j, e, hn, h => by
    simp only [nodupK, Bool.and_eq_true, Bool.not_eq_true', List.any_eq_false] at hn
    rcases List.mem_cons.1 h with h2 | h2
    · cases h2; simp only [ksize, if_true]
    · have hk : k ≠ j := fun e' => by
        have := hn.1 _ h2
        rw [e'] at this
        simp [beq_self] at this
      cases f with
      | arr e2 => simp only [ksize, if_neg hk]; exact ksize_of hn.2 h2
      | box cs => simp only [ksize, if_neg hk]; exact ksize_of hn.2 h2
theorem wf_nodup (h : s.wf = true) : nodupK s.ob = true := by
  simp only [Shape.wf, Bool.and_eq_true] at h
  exact h.1.1
/-- The memory as a reading leaves it. -/
theorem Read.mem {gA : Nat → Option AV} {x : s.X} {as : List (Nat × AV)} {os : Heap} {mt' : Nat → Prop} (R : Read s m H gA x d as os) (M : Mem mt g H hp) (hw : s.wf = true)
    (hmt : ∀ j n o Q b, aget d.asg j = some (some n) → H n = some o → o.iced = false → g.φ n = some Q → Q.blk = some b → mt' b) : Mem mt' (gE s d g) (hget os) hp := by
  have frz_ne : ∀ n, n ∈ d.frz → ∀ Q b, g.φ n = some Q → Q.blk = some b → ∀ k o Q' j, aget d.asg j = some (some k) → H k = some o → g.φ k = some Q' → Q'.blk ≠ some b := fun n hn Q b hQ hb k o Q' j hj ho hQ' => by
    obtain ⟨o0, h⟩ := R.good.rds n hn
    have hne : n ≠ k := fun e' => R.ok n hn j (by rw [e']; exact hj)
    exact M.sep n k _ o Q Q' b hne h ho hQ hQ' hb
  refine ⟨fun j o h => ?_, fun j o Q b h hi hQ hb => ?_, fun j o Q b h hi hQ hb => ?_, fun j k o o' Q Q' b hjk h h' hQ hQ' hb => ?_, fun b hb => ?_⟩
  · obtain ⟨y, hy, hyj, hB⟩ := ob_mem R.ob h
    obtain ⟨b1, b2, b3, b4⟩ := hB
    rcases b4 with ⟨n, o', h1, h2, h3⟩ | ⟨h1, h3⟩
    · obtain ⟨Q, hQ, hO⟩ := M.obj n o' h2
      refine ⟨Q, by rw [gE_some h1]; exact hQ, ?_⟩
      cases o with
      | ice _ _ => cases b2
      | box cs =>
        cases o' with
        | box vs =>
          obtain ⟨b, vals, t, k1, k2, k3⟩ := hO
          exact ⟨b, vals, t, k1, k2, All2.comp (R := RelC H d) (S := Mx.VR g hp) (T := Mx.VR (gE s d g) hp) (fun _ _ _ p q => RelC.VR M p q) h3 k3⟩
        | arr _ _ => exact h3.elim
        | ice _ _ => exact h3.elim
      | arr e l =>
        cases o' with
        | box _ => exact h3.elim
        | ice _ _ => exact h3.elim
        | arr e' l' =>
          have h3' : (⟨e, l⟩ : (e : Ty) × List e.T) = ⟨e', l'⟩ := h3
          cases h3'
          have st : Stab g hp (gE s d g) hp → True := fun _ => trivial
          obtain ⟨a1, a2, a3, a4⟩ := (hO : ArrR g hp Q e l)
          refine ⟨a1, a2, a3, ?_⟩
          cases hb : Q.blk with
          | none => rw [hb] at a4; exact a4
          | some b =>
            rw [hb] at a4
            obtain ⟨a5, vs, t, us, rest, a6, a7, a8, a9⟩ := a4
            exact ⟨a5, vs, t, us, rest, a6, a7, RdL.mono (fun x vs => Rd.stab (fun b h => .inl h) (fun _ _ => rfl) e x vs) l us a8, a9⟩
    · refine ⟨_, gE_none h1, ?_⟩
      cases o with
      | ice _ _ => cases b2
      | box cs => exact h3.elim
      | arr e l =>
        obtain rfl : l = [] := h3
        obtain ⟨yk, yf⟩ := y
        simp only at hyj
        subst hyj
        cases yf with
        | box _ => obtain ⟨_, hh⟩ := b3; cases hh
        | arr e2 =>
          obtain ⟨l2, hh⟩ := b3
          cases hh
          exact ⟨rfl, ksize_of (wf_nodup hw) hy, Nat.le_refl _, rfl, rfl, rfl⟩
  · obtain ⟨y, hy, hyj, b1, b2, b3, b4⟩ := ob_mem R.ob h
    rcases b4 with ⟨n, o', h1, h2, h3⟩ | ⟨h1, h3⟩
    · have h1' : aget d.asg j = some (some n) := h1
      rw [gE_some h1'] at hQ
      have hi' : o'.iced = false := by
        cases o' with
        | ice _ _ => cases o <;> exact h3.elim
        | _ => rfl
      obtain ⟨k1, k2⟩ := M.own n o' Q b h2 hi' hQ hb
      refine ⟨hmt j n o' Q b h1' h2 hi' hQ hb, fun hro => hro.elim k2 ?_⟩
      rintro ⟨f, hf, Qf, hQf, hbf⟩
      exact frz_ne f hf Qf b hQf hbf n o' Q j h1' h2 hQ hb
    · have h1' : aget d.asg j = some none := h1
      rw [gE_none h1'] at hQ
      cases hQ
      cases hb
  · obtain ⟨y, hy, hyj, b1, b2, b3, b4⟩ := ob_mem R.ob h
    have b2' : o.iced = false := b2
    rw [b2'] at hi
    cases hi
  · obtain ⟨y, hy, hyj, b1, b2, b3, b4⟩ := ob_mem R.ob h
    obtain ⟨z, hz, hzj, c1, c2, c3, c4⟩ := ob_mem R.ob h'
    rcases b4 with ⟨n, o1, h1, h2, h3⟩ | ⟨h1, h3⟩
    · have h1' : aget d.asg j = some (some n) := h1
      rw [gE_some h1'] at hQ
      rcases c4 with ⟨n', o2, k1, k2, k3⟩ | ⟨k1, k3⟩
      · have k1' : aget d.asg k = some (some n') := k1
        rw [gE_some k1'] at hQ'
        exact M.sep n n' o1 o2 Q Q' b (fun e => hjk (R.good.inj.1 j k n h1' (by rw [e]; exact k1'))) h2 k2 hQ hQ' hb
      · have k1' : aget d.asg k = some none := k1
        rw [gE_none k1'] at hQ'
        cases hQ'
        simp
    · have h1' : aget d.asg j = some none := h1
      rw [gE_none h1'] at hQ
      cases hQ
      cases hb
  · rcases hb with hb | ⟨n, hn, Q, hQ, hb⟩
    · exact M.ro b hb
    · obtain ⟨o0, h⟩ := R.good.rds n hn
      obtain ⟨Q', hQ', hO⟩ := M.obj n _ h
      rw [hQ] at hQ'
      cases hQ'
      exact hO.lt b hb
/-- What a reading does to the ground that nobody writes to. -/
theorem Read.ro {gA : Nat → Option AV} {x : s.X} {as : List (Nat × AV)} {os : Heap} (R : Read s m H gA x d as os) (M : Mem mt g H hp) : ∀ b, (gE s d g).ro b → g.ro b ∨ mt b := fun b hb => by
  rcases hb with hb | ⟨n, hn, Q, hQ, hb⟩
  · exact .inl hb
  · obtain ⟨o0, h⟩ := R.good.rds n hn
    cases hi : o0.iced with
    | false => exact .inr (M.own n _ Q b h hi hQ hb).1
    | true => exact .inl (M.ice n _ Q b h hi hQ hb)
end
end Go.Proofs.Ytmffnlcmklapmaa.Mx

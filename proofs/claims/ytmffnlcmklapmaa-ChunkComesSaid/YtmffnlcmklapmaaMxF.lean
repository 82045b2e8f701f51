/- The interpreter's loads and stores do what the model's do (own work). -/
import Derived.Test.YtmffnlcmklapmaaMxE
namespace Go.Proofs.Ytmffnlcmklapmaa.Mx
open Go
set_option autoImplicit false
set_option linter.unusedVariables false
set_option linter.unusedSimpArgs false
variable {P : Program}
theorem svO_eval {A : Option AV} {b : Nat} {H H' : HF} {fp fp' : FP} {v : SV} (h : (svO A).eval b H fp = some (v, H', fp')) : ∃ x, A = some x ∧ v = .v x ∧ H' = H := by
  cases A with
  | none => cases h
  | some x => simp only [svO, MA.eval, Option.some.injEq, Prod.mk.injEq] at h; exact ⟨x, rfl, h.1.symm, h.2.1.symm⟩
theorem cell_blk {w : World} {b k : Nat} {vs : Array Value} {ty : TypeId} {fz : Nat × Nat} (h : w.heap[b]? = some (.cells vs ty fz)) : w.cell? ⟨b, k, none⟩ = vs.toList[k]? := by
  rw [cell_of_row w b k vs ty fz h]; simp
theorem nth_cut {α : Type} {l : List α} {k n j : Nat} {x : α} (h : ((l.drop k).take n)[j]? = some x) : l[k + j]? = some x := by
  rw [List.getElem?_take] at h
  split at h
  · rwa [List.getElem?_drop] at h
  · cases h
theorem every_nth {stride : Nat} : ∀ (n : Nat) (cs l : List CV), everyCs stride n cs = some l → l.length = n ∧ ∀ j c, l[j]? = some c → cs[j * stride]? = some c
  | 0, cs, l, h => by simp only [everyCs, Option.some.injEq] at h; subst h; exact ⟨rfl, fun j c hc => by simp at hc⟩
  | n + 1, [], l, h => by simp [everyCs] at h
  | n + 1, c :: cs, l, h => by
    simp only [everyCs] at h
    cases hr : everyCs stride n ((c :: cs).drop stride) with
    | none => rw [hr] at h; cases h
    | some r =>
      rw [hr] at h
      simp only [Option.map_some, Option.some.injEq] at h
      subst h
      obtain ⟨h1, h2⟩ := every_nth n _ r hr
      refine ⟨by simp [h1], fun j x hx => ?_⟩
      cases j with
      | zero => simpa using hx
      | succ j =>
        have := h2 j x (by simpa using hx)
        rw [List.getElem?_drop] at this
        rwa [Nat.add_mul, Nat.one_mul, Nat.add_comm]
theorem intsOf_nth {k : IntKind} : ∀ (cs : List CV) (l : List Int), intsOf k cs = some l → l.length = cs.length ∧ ∀ j, j < cs.length → cs[j]? = some (.int k (l.getD j 0))
  | [], l, h => by simp only [intsOf, Option.some.injEq] at h; subst h; exact ⟨rfl, fun j hj => by simp at hj⟩
  | c :: cs, l, h => by
    cases c with
    | int k' n =>
      simp only [intsOf] at h
      split at h
      · rename_i he
        subst he
        cases hr : intsOf k' cs with
        | none => rw [hr] at h; cases h
        | some r =>
          rw [hr] at h
          simp only [Option.map_some, Option.some.injEq] at h
          subst h
          obtain ⟨h1, h2⟩ := intsOf_nth cs r hr
          refine ⟨by simp [h1], fun j hj => ?_⟩
          cases j with
          | zero => rfl
          | succ j => simpa using h2 j (by simpa using hj)
      · cases h
    | _ => simp [intsOf] at h
theorem boolsOf_nth : ∀ (cs : List CV) (l : List Bool), boolsOf cs = some l → l.length = cs.length ∧ ∀ j, j < cs.length → cs[j]? = some (.bool (l.getD j false))
  | [], l, h => by simp only [boolsOf, Option.some.injEq] at h; subst h; exact ⟨rfl, fun j hj => by simp at hj⟩
  | c :: cs, l, h => by
    cases c with
    | bool n =>
      simp only [boolsOf] at h
      cases hr : boolsOf cs with
      | none => rw [hr] at h; cases h
      | some r =>
        rw [hr] at h
        simp only [Option.map_some, Option.some.injEq] at h
        subst h
        obtain ⟨h1, h2⟩ := boolsOf_nth cs r hr
        refine ⟨by simp [h1], fun j hj => ?_⟩
        cases j with
        | zero => rfl
        | succ j => simpa using h2 j (by simpa using hj)
    | _ => simp [boolsOf] at h
theorem rowsOf_nth {e : Ty} : ∀ (cs : List CV) (l : List (List e.T)), rowsOf e cs = some l → l.length = cs.length ∧ ∀ j, j < cs.length → cs[j]? = some (.row e (l.getD j []))
  | [], l, h => by simp only [rowsOf, Option.some.injEq] at h; subst h; exact ⟨rfl, fun j hj => by simp at hj⟩
  | c :: cs, l, h => by
    cases c with
    | row e' n =>
      simp only [rowsOf] at h
      split at h
      · rename_i q
        subst q
        cases hr : rowsOf e' cs with
        | none => rw [hr] at h; cases h
        | some r =>
          rw [hr] at h
          simp only [Option.map_some, Option.some.injEq] at h
          subst h
          obtain ⟨h1, h2⟩ := rowsOf_nth cs r hr
          refine ⟨by simp [h1], fun j hj => ?_⟩
          cases j with
          | zero => rfl
          | succ j => simpa using h2 j (by simpa using hj)
      · cases h
    | _ => simp [rowsOf] at h
theorem sel_nth {cs : List CV} {i : Nat} {c : CV} (h : sel cs i = some c) (hi : i < cs.length) : cs[i]? = some c := by
  cases cs with
  | nil => simp at hi
  | cons x r =>
    cases x with
    | int k n =>
      simp only [sel] at h
      cases hr : intsOf k (.int k n :: r) with
      | none => rw [hr] at h; cases h
      | some l => rw [hr] at h; simp only [Option.map_some, Option.some.injEq] at h; subst h; exact (intsOf_nth _ l hr).2 i hi
    | bool b =>
      simp only [sel] at h
      cases hr : boolsOf (.bool b :: r) with
      | none => rw [hr] at h; cases h
      | some l => rw [hr] at h; simp only [Option.map_some, Option.some.injEq] at h; subst h; exact (boolsOf_nth _ l hr).2 i hi
    | row e b =>
      simp only [sel] at h
      cases hr : rowsOf e (.row e b :: r) with
      | none => rw [hr] at h; cases h
      | some l => rw [hr] at h; simp only [Option.map_some, Option.some.injEq] at h; subst h; exact (rowsOf_nth _ l hr).2 i hi
    | _ => simp [sel] at h
theorem selN_nth {cs : List CV} {len stride i : Nat} (hi : i < len) : ∀ (n o : Nat) (r : List CV), selN cs len stride i o n = some r → r.length = n ∧ ∀ j c, r[j]? = some c → cs[i * stride + o + j]? = some c
  | 0, o, r, h => by simp only [selN, Option.some.injEq] at h; subst h; exact ⟨rfl, fun j c hc => by simp at hc⟩
  | n + 1, o, r, h => by
    simp only [selN] at h
    cases h1 : everyCs stride len (cs.drop o) with
    | none => rw [h1] at h; cases h
    | some l =>
      rw [h1] at h
      simp only at h
      cases h2 : sel l i with
      | none => rw [h2] at h; cases h
      | some c =>
        rw [h2] at h
        simp only at h
        cases h3 : selN cs len stride i (o + 1) n with
        | none => rw [h3] at h; cases h
        | some r' =>
          rw [h3] at h
          simp only [Option.map_some, Option.some.injEq] at h
          subst h
          obtain ⟨e1, e2⟩ := every_nth len _ l h1
          obtain ⟨e3, e4⟩ := selN_nth hi n (o + 1) r' h3
          refine ⟨by simp [e3], fun j x hx => ?_⟩
          cases j with
          | zero =>
            simp only [List.getElem?_cons_zero, Option.some.injEq] at hx
            subst hx
            have := e2 i c (sel_nth h2 (by rw [e1]; exact hi))
            rw [List.getElem?_drop] at this
            rwa [Nat.add_zero, Nat.add_comm]
          | succ j =>
            have := e4 j x (by simpa using hx)
            rwa [show i * stride + o + (j + 1) = i * stride + (o + 1) + j by omega]
/-- Cells that are told one by one. -/
theorem All2.of_nth {α β : Type} {R : α → β → Prop} : ∀ (l : List α) (m : List β), (∀ (j : Nat) (x : α), l[j]? = some x → ∃ y, m[j]? = some y ∧ R x y) → l.length = m.length → All2 R l m
  | [], [], _, _ => trivial
  | [], _ :: _, _, h => by simp at h
  | _ :: _, [], _, h => by simp at h
  | x :: l, y :: m, h, hl => by
    obtain ⟨y', h1, h2⟩ := h 0 x rfl
    simp only [List.getElem?_cons_zero, Option.some.injEq] at h1
    subst h1
    exact ⟨h2, All2.of_nth l m (fun j x hx => h (j + 1) x hx) (by simpa using hl)⟩
section
variable {mt : Nat → Prop} {g : Gh} {H H' : HF} {w : World} {base : Nat} {fp fp' : FP} {v : SV} {i : TI} {t : Nat}
theorem arr_elem {Q : Pl} {e : Ty} {l : List e.T} {k b : Nat} (h : ArrR g w.heap Q e l) (hb : Q.blk = some b) (hk : k < Q.len) :
    ∃ vs ty u, w.heap[b]? = some (.cells vs ty (0, 0)) ∧ u = (vs.toList.drop (k * Q.size)).take e.size ∧ Rd g.ro w.heap e (l.getD k e.dflt) u := by
  obtain ⟨h1, h2, h3, h4⟩ := h
  rw [hb] at h4
  obtain ⟨_, vs, ty, us, rest, h5, h6, h7, h8⟩ := h4
  obtain ⟨u, h9, h10⟩ := RdL.get l us k e.dflt h7 (by omega)
  refine ⟨vs, ty, u, h5, ?_, h10⟩
  have hlen := RdL.length l us h7
  have hkl : (k + 1) * e.size ≤ l.length * e.size := Nat.mul_le_mul_right _ (by omega)
  rw [Nat.add_mul, Nat.one_mul] at hkl
  rw [← h9, h6, h2, List.drop_append_of_le_length (by omega), List.take_append_of_le_length (by rw [List.length_drop]; omega)]
/-- A load out of an element. -/
theorem load_elem {e : Ty} {x : e.T} {u : List Value} {vs : List Value} {b k off : Nat} {l : List CV} {A : AV} (ht : TIok P t i) (hu : u = (vs.drop k).take e.size) (hR : Rd g.ro w.heap e x u)
    (hc : ∀ j, w.cell? ⟨b, j, none⟩ = vs[j]?) (hcut : cutCs (e.enc x []) off i.size = some l) (hA : mkAV i.agg l = some A) :
    ∃ V, (Instr.loadAt t (.pointer (some ⟨b, k + off, none⟩))).run P w = .ok V w ∧ AVR g w.heap A V := by
  have h1 := Rd.enc e x u [] [] hR trivial
  rw [List.append_nil] at h1
  obtain ⟨h2, h3⟩ := cut_VR h1 hcut
  refine load_run ht h3 (fun j y hy => ?_) hA h2
  rw [hc, Nat.add_assoc]
  have := nth_cut hy
  rw [hu] at this
  exact nth_cut this
theorem load_does {x : SV} {X : Value} (ht : TIok P t i) (M : Mem mt g H w.heap) (hx : SVR g w.heap x X) (h : (loadM i x).eval base H fp = some (v, H', fp')) :
    ∃ V, (Instr.loadAt t X).run P w = .ok V w ∧ SVR g w.heap v V ∧ H' = H := by
  unfold loadM at h
  split at h
  · -- a cell of a box
    rename_i n off
    obtain ⟨Q, b, hQ, hb, rfl⟩ := (hx : VR g w.heap (.ptr n off) X)
    simp only [MA.eval] at h
    cases ho : H n with
    | none => rw [ho] at h; cases h
    | some o =>
      rw [ho] at h
      obtain ⟨Q', hQ', hO⟩ := M.obj n o ho
      rw [hQ] at hQ'
      cases hQ'
      cases o with
      | box cs =>
        obtain ⟨b', vs, ty, hb', hh, hA⟩ := hO
        rw [hb] at hb'
        cases hb'
        simp only at h
        split at h
        · rename_i l hl
          obtain ⟨A, hA1, rfl, rfl⟩ := svO_eval h
          obtain ⟨h1, h2⟩ := cut_VR hA hl
          obtain ⟨V, h3, h4⟩ := load_run ht h2 (fun j y hy => by rw [cell_blk hh]; exact nth_cut hy) hA1 h1
          exact ⟨V, h3, h4, rfl⟩
        · cases h
      | arr _ _ => cases h
      | ice _ _ => cases h
  · -- a cell of an element
    rename_i n k off
    obtain ⟨Q, b, hQ, hb, hk, rfl⟩ := (hx : VR g w.heap (.eptr n k off) X)
    simp only [MA.eval] at h
    cases ho : H n with
    | none => rw [ho] at h; cases h
    | some o =>
      rw [ho] at h
      obtain ⟨Q', hQ', hO⟩ := M.obj n o ho
      rw [hQ] at hQ'
      cases hQ'
      cases o with
      | box cs => cases h
      | arr e l =>
        obtain ⟨vs, ty, u, h1, h2, h3⟩ := arr_elem (hO : ArrR g w.heap Q e l) hb hk
        simp only at h
        split at h
        · rename_i l' hl
          obtain ⟨A, hA1, rfl, rfl⟩ := svO_eval h
          obtain ⟨V, h4, h5⟩ := load_elem ht h2 h3 (fun j => cell_blk h1) hl hA1
          exact ⟨V, h4, h5, rfl⟩
        · cases h
      | ice e l =>
        obtain ⟨vs, ty, u, h1, h2, h3⟩ := arr_elem (hO : ArrR g w.heap Q e l) hb hk
        simp only at h
        split at h
        · rename_i l' hl
          obtain ⟨A, hA1, rfl, rfl⟩ := svO_eval h
          obtain ⟨V, h4, h5⟩ := load_elem ht h2 h3 (fun j => cell_blk h1) hl hA1
          exact ⟨V, h4, h5, rfl⟩
        · cases h
  · -- a cell of a row that nobody writes to
    rename_i e l k off
    obtain ⟨b, o, cs, ty, fz, us, rest, rfl, hb, hh, hd, hR, hk⟩ := (hx : VR g w.heap (.rptr e l k off) X)
    split at h
    · rename_i l' hl
      obtain ⟨A, hA1, rfl, rfl⟩ := svO_eval h
      obtain ⟨u, h1, h2⟩ := RdL.get l us k e.dflt hR hk
      have hlen := RdL.length l us hR
      have hkl : (k + 1) * e.size ≤ l.length * e.size := Nat.mul_le_mul_right _ (by omega)
      rw [Nat.add_mul, Nat.one_mul] at hkl
      have h3 : u = (cs.toList.drop (o + k * e.size)).take e.size := by
        rw [← h1, ← List.drop_drop, hd, List.drop_append_of_le_length (by omega), List.take_append_of_le_length (by rw [List.length_drop]; omega)]
      obtain ⟨V, h4, h5⟩ := load_elem ht h3 h2 (fun j => cell_blk hh) hl hA1
      exact ⟨V, h4, h5, rfl⟩
    · cases h
  · -- a cell of an array in a box
    rename_i n off len stride k o
    obtain ⟨Q, b, hQ, hb, hk, rfl⟩ := (hx : VR g w.heap (.aptr n off len stride k o) X)
    simp only [MA.eval] at h
    cases ho : H n with
    | none => rw [ho] at h; cases h
    | some ob =>
      rw [ho] at h
      obtain ⟨Q', hQ', hO⟩ := M.obj n ob ho
      rw [hQ] at hQ'
      cases hQ'
      cases ob with
      | box cs =>
        obtain ⟨b', vs, ty, hb', hh, hA⟩ := hO
        rw [hb] at hb'
        cases hb'
        simp only at h
        split at h
        · rename_i l hl
          split at h
          · rename_i r hr
            obtain ⟨A, hA1, rfl, rfl⟩ := svO_eval h
            obtain ⟨h1, h2⟩ := cut_VR hA hl
            obtain ⟨h3, h4⟩ := selN_nth hk i.size o r hr
            have hle := All2.length h1
            have hall : ∀ j c, r[j]? = some c → ∃ y, (((vs.toList.drop off).take (len * stride)).drop (k * stride + o))[j]? = some y ∧ VR g w.heap c y := fun j c hc => by
              obtain ⟨y, hy1, hy2⟩ := All2.get _ h1 (h4 j c hc)
              exact ⟨y, by rw [List.getElem?_drop]; exact hy1, hy2⟩
            have hrl : i.size ≤ (((vs.toList.drop off).take (len * stride)).drop (k * stride + o)).length := by
              rcases Nat.eq_zero_or_pos i.size with hz | hz
              · omega
              · have : i.size - 1 < r.length := by omega
                obtain ⟨y, hy, _⟩ := hall (i.size - 1) _ (List.getElem?_eq_getElem this)
                have := (List.getElem?_eq_some_iff.1 hy).1
                omega
            have h5 : All2 (VR g w.heap) r ((((vs.toList.drop off).take (len * stride)).drop (k * stride + o)).take i.size) := by
              refine All2.of_nth _ _ (fun j c hc => ?_) (by rw [List.length_take]; omega)
              obtain ⟨y, hy, hv⟩ := hall j c hc
              have hj : j < i.size := by have := (List.getElem?_eq_some_iff.1 hc).1; omega
              exact ⟨y, by rw [List.getElem?_take, if_pos hj]; exact hy, hv⟩
            obtain ⟨V, h6, h7⟩ := load_run ht (by rw [List.length_take]; omega) (fun j y hy => by
              rw [cell_blk hh, show off + k * stride + o + j = off + (k * stride + o + j) by omega]
              exact nth_cut (nth_cut hy)) hA1 h5
            exact ⟨V, h6, h7, rfl⟩
          · cases h
        · cases h
      | arr _ _ => cases h
      | ice _ _ => cases h
  · cases h
/-! ### stores -/
theorem putAt_nth {stride o k : Nat} {y : CV} (hs : o < stride) : ∀ (cs : List CV) (q : Nat) (r : List CV), putAt stride o k y q cs = some r → r.length = cs.length ∧ ∀ m, r[m]? = if q + m = k * stride + o ∧ m < cs.length then some y else cs[m]?
  | [], q, r, h => by simp only [putAt, Option.some.injEq] at h; subst h; exact ⟨rfl, fun m => by simp⟩
  | c :: cs, q, r, h => by
    simp only [putAt] at h
    cases h1 : putAt stride o k y (q + 1) cs with
    | none => rw [h1] at h; cases h
    | some r' =>
      rw [h1] at h
      simp only at h
      obtain ⟨e1, e2⟩ := putAt_nth hs cs (q + 1) r' h1
      have tail : ∀ (x : CV) (m : Nat), (x :: r')[m + 1]? = if q + (m + 1) = k * stride + o ∧ m + 1 < (c :: cs).length then some y else (c :: cs)[m + 1]? := fun x m => by
        rw [List.getElem?_cons_succ, e2 m, List.getElem?_cons_succ, List.length_cons]
        by_cases hc : q + 1 + m = k * stride + o ∧ m < cs.length
        · rw [if_pos hc, if_pos ⟨by omega, by omega⟩]
        · rw [if_neg hc, if_neg (fun hh => hc ⟨by omega, by omega⟩)]
      have hmod : q % stride = o → (k = q / stride ↔ q = k * stride + o) := fun hq => by
        have hd := Nat.div_add_mod q stride
        constructor
        · intro hk; rw [hk, ← hq, Nat.mul_comm]; exact hd.symm
        · intro hk
          have : (k * stride + o) / stride = k := by rw [Nat.mul_comm, Nat.mul_add_div (by omega), Nat.div_eq_of_lt hs, Nat.add_zero]
          rw [hk, this]
      cases hb : Nat.beq (q % stride) o with
      | false =>
        rw [hb] at h
        simp only [Option.some.injEq] at h
        subst h
        refine ⟨by simp [e1], fun m => ?_⟩
        cases m with
        | zero =>
          have hne : ¬ (q + 0 = k * stride + o ∧ 0 < (c :: cs).length) := fun hh => by
            have : q % stride = o := by
              rw [show q = k * stride + o by omega, Nat.mul_comm, Nat.mul_add_mod]
              exact Nat.mod_eq_of_lt hs
            rw [this, beq_self] at hb
            cases hb
          rw [if_neg hne]
          rfl
        | succ m => exact tail c m
      | true =>
        have hq := beq_eq hb
        rw [hb] at h
        simp only at h
        have fin : ∀ x, some (x :: r') = some r → (k = q / stride → x = y) → (k ≠ q / stride → x = c) → r.length = (c :: cs).length ∧ ∀ m, r[m]? = if q + m = k * stride + o ∧ m < (c :: cs).length then some y else (c :: cs)[m]? := fun x hx h3 h4 => by
          simp only [Option.some.injEq] at hx
          subst hx
          refine ⟨by simp [e1], fun m => ?_⟩
          cases m with
          | zero =>
            by_cases hk : k = q / stride
            · rw [if_pos ⟨(hmod hq).1 hk, by simp⟩, h3 hk]; rfl
            · rw [if_neg (fun hh => hk ((hmod hq).2 hh.1)), h4 hk]; rfl
          | succ m => exact tail x m
        split at h
        · split at h
          · rename_i k1 n k2 z he
            subst he
            exact fin _ h (fun hk => by rw [if_pos hk]) (fun hk => by rw [if_neg hk])
          · cases h
        · exact fin _ h (fun hk => by rw [if_pos hk]) (fun hk => by rw [if_neg hk])
        · split at h
          · rename_i e1 n e2 z he
            subst he
            exact fin _ h (fun hk => by rw [if_pos hk]) (fun hk => by rw [if_neg hk])
          · cases h
        · cases h
theorem put_nth {α : Type} (l : List α) (off : Nat) (u : List α) (q : Nat) (h : off + u.length ≤ l.length) :
    (l.take off ++ u ++ l.drop (off + u.length))[q]? = if off ≤ q ∧ q < off + u.length then u[q - off]? else l[q]? := by
  have h1 : (l.take off).length = off := by rw [List.length_take]; omega
  by_cases hq : q < off
  · rw [if_neg (by omega), List.append_assoc, List.getElem?_append_left (by omega), List.getElem?_take, if_pos hq]
  · by_cases hq2 : q < off + u.length
    · rw [if_pos ⟨by omega, hq2⟩, List.append_assoc, List.getElem?_append_right (by omega), h1, List.getElem?_append_left (by omega)]
    · rw [if_neg (by omega), List.getElem?_append_right (by rw [List.length_append]; omega), List.length_append, h1, List.getElem?_drop]
      congr 1
      omega
/-- What putN writes. -/
theorem putN_nth {stride k : Nat} : ∀ (vs : List CV) (o : Nat) (cs r : List CV), o + vs.length ≤ stride → putN stride k o vs cs = some r → r.length = cs.length ∧
    ∀ q, q < cs.length → r[q]? = if k * stride + o ≤ q ∧ q < k * stride + o + vs.length then vs[q - (k * stride + o)]? else cs[q]?
  | [], o, cs, r, _, h => by
    simp only [putN, Option.some.injEq] at h
    subst h
    exact ⟨rfl, fun q _ => by rw [if_neg (by simp only [List.length_nil]; omega)]⟩
  | y :: vs, o, cs, r, ho, h => by
    simp only [putN] at h
    cases h1 : putAt stride o k y 0 cs with
    | none => rw [h1] at h; cases h
    | some cs' =>
      rw [h1] at h
      simp only [List.length_cons] at h ho
      obtain ⟨e1, e2⟩ := putAt_nth (by omega) cs 0 cs' h1
      obtain ⟨e3, e4⟩ := putN_nth vs (o + 1) cs' r (by omega) h
      refine ⟨by omega, fun q hq => ?_⟩
      rw [e4 q (by omega), e2 q]
      simp only [List.length_cons]
      by_cases ha : q = k * stride + o
      · rw [if_neg (by omega), if_pos ⟨by omega, hq⟩, if_pos ⟨by omega, by omega⟩, ha, Nat.sub_self]; rfl
      · by_cases hb : k * stride + (o + 1) ≤ q ∧ q < k * stride + (o + 1) + vs.length
        · rw [if_pos hb, if_pos ⟨by omega, by omega⟩, show q - (k * stride + o) = (q - (k * stride + (o + 1))) + 1 by omega]; rfl
        · have hc : ¬ (0 + q = k * stride + o ∧ q < cs.length) := fun hh => ha (by omega)
          have hd : ¬ (k * stride + o ≤ q ∧ q < k * stride + o + (vs.length + 1)) := fun hh => hb ⟨by omega, by omega⟩
          rw [if_neg hb, if_neg hc, if_neg hd]
theorem fits_spec {cs : List CV} {n : Nat} (h : fits cs n = true) : cs.length = n ∧ cs.all live = true := by
  unfold fits at h
  simp only [Bool.and_eq_true] at h
  exact ⟨beq_eq h.1, h.2⟩
theorem store_does {x y : SV} {X Y : Value} (ht : TIok P t i) (M : Mem mt g H w.heap) (hx : SVR g w.heap x X) (hy : SVR g w.heap y Y) (h : (storeM i x y).eval base H fp = some (v, H', fp')) :
    ∃ w', (Instr.storeAt t X Y).run P w = .ok () w' ∧ Post mt g w base H' v undef w' := by
  unfold storeM at h
  split at h
  · -- a cell of a box
    rename_i n off a
    obtain ⟨Q, b, hQ, hb, rfl⟩ := (hx : VR g w.heap (.ptr n off) X)
    cases hf : fits (avCs a) i.size with
    | false => rw [hf] at h; cases h
    | true =>
      rw [hf] at h
      obtain ⟨f1, f2⟩ := fits_spec hf
      simp only [MA.eval] at h
      cases ho : H n with
      | none => rw [ho] at h; cases h
      | some o =>
        rw [ho] at h
        obtain ⟨Q', hQ', hO⟩ := M.obj n o ho
        rw [hQ] at hQ'
        cases hQ'
        cases o with
        | arr _ _ => cases h
        | ice _ _ => cases h
        | box cs =>
          obtain ⟨b', vs, ty, hb', hh, hA⟩ := hO
          rw [hb] at hb'
          cases hb'
          simp only at h
          split at h
          · rename_i cs' hc
            simp only [MA.eval, ho, Option.some.injEq, Prod.mk.injEq] at h
            obtain ⟨rfl, rfl, _⟩ := h
            have hv2 := avCs_VR (A := a) hy f2
            have hlen := All2.length hv2
            obtain ⟨h1, h2⟩ := put_VR hA hv2 hc
            refine ⟨_, store_run ht (by omega) hh (by simpa using h2) (oneCells hv2 f2), ?_⟩
            refine Post.set M ho hQ rfl rfl hb (fun c hc => setRow_other hc) (by simp) rfl rfl rfl (fun st => ⟨b, _, ty, hb, setRow_heap hh, ?_⟩) (fun _ => trivial)
            exact All2.mono (VR.stab st) _ _ (by simpa using h1)
          · cases h
  · -- a cell of an element
    rename_i n k off a
    obtain ⟨Q, b, hQ, hb, hk, rfl⟩ := (hx : VR g w.heap (.eptr n k off) X)
    cases hf : fits (avCs a) i.size with
    | false => rw [hf] at h; cases h
    | true =>
      rw [hf] at h
      obtain ⟨f1, f2⟩ := fits_spec hf
      simp only [MA.eval] at h
      cases ho : H n with
      | none => rw [ho] at h; cases h
      | some o =>
        rw [ho] at h
        obtain ⟨Q', hQ', hO⟩ := M.obj n o ho
        rw [hQ] at hQ'
        cases hQ'
        cases o with
        | box _ => cases h
        | ice _ _ => cases h
        | arr e l =>
          have hO0 := hO
          obtain ⟨a1, a2, a3, a4⟩ := hO
          rw [hb] at a4
          obtain ⟨a5, vs, ty, us, rest, a6, a7, a8, a9⟩ := a4
          simp only at h
          split at h
          · rename_i cs hc
            split at h
            · rename_i z hd
              simp only [MA.eval, ho, Option.some.injEq, Prod.mk.injEq] at h
              obtain ⟨rfl, rfl, _⟩ := h
              obtain ⟨u, u1, u2⟩ := RdL.get l us k e.dflt a8 (by omega)
              have hlen := RdL.length l us a8
              have hkl : (k + 1) * e.size ≤ l.length * e.size := Nat.mul_le_mul_right _ (by omega)
              rw [Nat.add_mul, Nat.one_mul] at hkl
              have hv2 := avCs_VR (A := a) hy f2
              have hlv := All2.length hv2
              have h1 := Rd.enc e _ u [] [] u2 trivial
              rw [List.append_nil] at h1
              obtain ⟨h2, h3⟩ := put_VR h1 hv2 hc
              obtain ⟨u', v', e1, e2, e3⟩ := dec_Rd e cs _ z [] h2 hd
              have hv' : v' = [] := by
                have := All2.length e3
                exact List.length_eq_zero_iff.1 (by simpa using this.symm)
              subst hv'
              rw [List.append_nil] at e1
              have hul : u.length = e.size := Rd.length e _ _ u2
              have hvs : vs.size = vs.toList.length := by simp
              have hfit : k * Q.size + off + Y.cells.toList.length ≤ vs.size := by
                rw [hvs, a7, List.length_append, a2]; omega
              refine ⟨_, store_run ht (by omega) a6 hfit (oneCells hv2 f2), ?_⟩
              refine Post.set M ho hQ rfl rfl hb (fun c hc => setRow_other hc) (by simp) rfl rfl rfl (fun st => ?_) (fun _ => trivial)
              refine ⟨by simpa using a1, a2, a3, ?_⟩
              rw [hb]
              have hset := RdL.set l us k z u' a8 (by omega) e2
              have hu' : u'.length = e.size := Rd.length e _ _ e2
              refine ⟨a5, _, ty, _, rest, setRow_heap a6, ?_, RdL.mono (fun x vs => Rd.stab st.ro st.hp e x vs) _ _ hset, ?_⟩
              · refine List.ext_getElem? fun q => ?_
                have hsz : Q.size = e.size := a2
                rw [hsz]
                simp only [hsz] at hfit
                have hL : us.length = l.length * e.size := hlen
                rw [show (vs.toList.take (k * e.size + off) ++ Y.cells.toList ++ vs.toList.drop (k * e.size + off + Y.cells.toList.length)).toArray.toList = vs.toList.take (k * e.size + off) ++ Y.cells.toList ++ vs.toList.drop (k * e.size + off + Y.cells.toList.length) from by simp]
                rw [put_nth _ _ _ _ (by rw [← hvs]; exact hfit)]
                have hU : (us.take (k * e.size) ++ u' ++ us.drop (k * e.size + e.size)).length = us.length := by
                  simp only [List.length_append, List.length_take, List.length_drop]; omega
                by_cases hq : q < us.length
                · have hpn := put_nth us (k * e.size) u' q (by omega)
                  rw [hu'] at hpn
                  rw [List.getElem?_append_left (by rw [hU]; exact hq), hpn]
                  rw [show vs.toList[q]? = us[q]? by rw [a7, List.getElem?_append_left hq]]
                  by_cases hin : k * e.size ≤ q ∧ q < k * e.size + e.size
                  · rw [if_pos hin, ← e1, put_nth u off _ _ (by omega)]
                    by_cases hw : k * e.size + off ≤ q ∧ q < k * e.size + off + Y.cells.toList.length
                    · rw [if_pos hw, if_pos (by omega)]
                      congr 1
                      omega
                    · rw [if_neg hw, if_neg (by omega), ← u1, List.getElem?_take, if_pos (by omega), List.getElem?_drop]
                      congr 1
                      omega
                  · rw [if_neg hin, if_neg (by omega)]
                · rw [List.getElem?_append_right (by omega), hU, if_neg (by omega), a7, List.getElem?_append_right (by omega)]
              · have : (vs.toList.take (k * Q.size + off) ++ Y.cells.toList ++ vs.toList.drop (k * Q.size + off + Y.cells.toList.length)).toArray.size = vs.size := by
                  simp only [List.size_toArray, List.length_append, List.length_take, List.length_drop]; omega
                rw [this]
                exact a9
            · cases h
          · cases h
  · -- a cell of an array in a box
    rename_i n off len stride k o a
    obtain ⟨Q, b, hQ, hb, hk, rfl⟩ := (hx : VR g w.heap (.aptr n off len stride k o) X)
    cases hf : (fits (avCs a) i.size && Nat.ble (o + (avCs a).length) stride) with
    | false => rw [hf] at h; cases h
    | true =>
      rw [hf] at h
      simp only [Bool.and_eq_true] at hf
      obtain ⟨f1, f2⟩ := fits_spec hf.1
      have f3 := Nat.le_of_ble_eq_true hf.2
      simp only [MA.eval] at h
      cases ho : H n with
      | none => rw [ho] at h; cases h
      | some ob =>
        rw [ho] at h
        obtain ⟨Q', hQ', hO⟩ := M.obj n ob ho
        rw [hQ] at hQ'
        cases hQ'
        cases ob with
        | arr _ _ => cases h
        | ice _ _ => cases h
        | box cs =>
          obtain ⟨b', vs, ty, hb', hh, hA⟩ := hO
          rw [hb] at hb'
          cases hb'
          simp only at h
          split at h
          · rename_i l hl
            split at h
            · rename_i l' hl'
              split at h
              · rename_i cs' hc
                simp only [MA.eval, ho, Option.some.injEq, Prod.mk.injEq] at h
                obtain ⟨rfl, rfl, _⟩ := h
                have hv2 := avCs_VR (A := a) hy f2
                have hlv := All2.length hv2
                obtain ⟨hl1, hl2⟩ := cut_VR hA hl
                obtain ⟨p1, p2⟩ := putN_nth (avCs a) o l l' f3 hl'
                have hll := All2.length hl1
                have hkl : (k + 1) * stride ≤ len * stride := Nat.mul_le_mul_right _ hk
                rw [Nat.add_mul, Nat.one_mul] at hkl
                -- the array's cells behind the store
                have hseg : All2 (VR g w.heap) l' (((vs.toList.drop off).take (len * stride)).take (k * stride + o) ++ Y.cells.toList ++ ((vs.toList.drop off).take (len * stride)).drop (k * stride + o + Y.cells.toList.length)) := by
                  have hL : (((vs.toList.drop off).take (len * stride)).take (k * stride + o) ++ Y.cells.toList ++ ((vs.toList.drop off).take (len * stride)).drop (k * stride + o + Y.cells.toList.length)).length = len * stride := by
                    simp only [List.length_append, List.length_take, List.length_drop] at hl2 ⊢; omega
                  refine All2.of_nth _ _ (fun q c hc => ?_) (by rw [hL]; omega)
                  have hq : q < l.length := by have := (List.getElem?_eq_some_iff.1 hc).1; omega
                  rw [p2 q hq] at hc
                  rw [put_nth _ _ _ _ (by omega)]
                  by_cases hin : k * stride + o ≤ q ∧ q < k * stride + o + (avCs a).length
                  · rw [if_pos hin] at hc
                    rw [if_pos (by omega)]
                    exact All2.get _ hv2 hc
                  · rw [if_neg hin] at hc
                    rw [if_neg (by omega)]
                    exact All2.get _ hl1 hc
                obtain ⟨h1, h2⟩ := put_VR hA hseg hc
                have hsl : (((vs.toList.drop off).take (len * stride)).take (k * stride + o) ++ Y.cells.toList ++ ((vs.toList.drop off).take (len * stride)).drop (k * stride + o + Y.cells.toList.length)).length = len * stride := by
                  simp only [List.length_append, List.length_take, List.length_drop] at hl2 ⊢; omega
                have hvs : vs.size = vs.toList.length := by simp
                rw [hsl] at h1 h2
                have hlist : vs.toList.take off ++ (((vs.toList.drop off).take (len * stride)).take (k * stride + o) ++ Y.cells.toList ++ ((vs.toList.drop off).take (len * stride)).drop (k * stride + o + Y.cells.toList.length)) ++ vs.toList.drop (off + len * stride) =
                    vs.toList.take (off + k * stride + o) ++ Y.cells.toList ++ vs.toList.drop (off + k * stride + o + Y.cells.toList.length) := by
                  refine List.ext_getElem? fun q => ?_
                  have e1 := put_nth vs.toList off (((vs.toList.drop off).take (len * stride)).take (k * stride + o) ++ Y.cells.toList ++ ((vs.toList.drop off).take (len * stride)).drop (k * stride + o + Y.cells.toList.length)) q (by rw [hsl]; exact h2)
                  rw [hsl] at e1
                  rw [e1, put_nth vs.toList (off + k * stride + o) _ q (by omega), put_nth _ _ _ _ (by omega)]
                  by_cases hin : off ≤ q ∧ q < off + len * stride
                  · rw [if_pos hin]
                    by_cases hw : off + k * stride + o ≤ q ∧ q < off + k * stride + o + Y.cells.toList.length
                    · rw [if_pos hw, if_pos (by omega)]
                      congr 1
                      omega
                    · rw [if_neg hw, if_neg (by omega), List.getElem?_take, if_pos (by omega), List.getElem?_drop]
                      congr 1
                      omega
                  · rw [if_neg hin, if_neg (by omega)]
                refine ⟨_, store_run ht (by omega) hh (by omega) (oneCells hv2 f2), ?_⟩
                refine Post.set M ho hQ rfl rfl hb (fun c hc => setRow_other hc) (by simp) rfl rfl rfl (fun st => ⟨b, _, ty, hb, setRow_heap hh, ?_⟩) (fun _ => trivial)
                rw [hlist] at h1
                exact All2.mono (VR.stab st) _ _ (by simpa using h1)
              · cases h
            · cases h
          · cases h
  · cases h
end
end Go.Proofs.Ytmffnlcmklapmaa.Mx

/- What a shape's reading of a state tells (own work). -/
import Derived.Test.YtmffnlcmklapmaaMxL
namespace Go.Proofs.Ytmffnlcmklapmaa.Mx
open Go
set_option autoImplicit false
set_option linter.unusedVariables false
set_option linter.unusedSimpArgs false
universe u
abbrev RH := Nat → Option Obj
structure DS.le (d d' : DS) : Prop where
  asg : ∀ j x, aget d.asg j = some x → aget d'.asg j = some x
  frz : ∀ n, n ∈ d.frz → n ∈ d'.frz
theorem DS.le.refl (d : DS) : d.le d := ⟨fun _ _ h => h, fun _ h => h⟩
theorem DS.le.trans {a b c : DS} (h : a.le b) (k : b.le c) : a.le c := ⟨fun j x h' => k.asg j x (h.asg j x h'), fun n h' => k.frz n (h.frz n h')⟩
/-- Different keys of a shape stand for different keys. -/
def DS.inj (d : DS) : Prop := (∀ i j n, aget d.asg i = some (some n) → aget d.asg j = some (some n) → i = j) ∧ ∀ n, ahas d.asg n = true ↔ ∃ j, aget d.asg j = some (some n)
/-- Frozen keys read as rows. -/
def DS.reads (d : DS) (h : RH) : Prop := ∀ n, n ∈ d.frz → ∃ o, h n = some o
theorem aget_cons (k : Nat) (o : Option Nat) (l : List (Nat × Option Nat)) (n : Nat) : aget ((k, o) :: l) n = if k = n then some o else aget l n := by
  by_cases e : k = n
  · subst e; simp only [aget, beq_self, if_true]
  · simp only [aget, beq_ne e, if_neg e]
theorem DS.inj_cons {d : DS} {j n : Nat} (hi : d.inj) (hj : aget d.asg j = none) (hn : ahas d.asg n = false) : DS.inj ⟨(j, some n) :: d.asg, d.frz⟩ := by
  have hno : ∀ i, aget d.asg i ≠ some (some n) := fun i h => by
    have := (hi.2 n).2 ⟨i, h⟩
    rw [hn] at this; cases this
  constructor
  · intro a b m ha hb
    simp only [aget_cons] at ha hb
    by_cases h1 : j = a
    · by_cases h2 : j = b
      · omega
      · rw [if_pos h1] at ha; rw [if_neg h2] at hb
        cases ha
        exact absurd hb (hno b)
    · by_cases h2 : j = b
      · rw [if_neg h1] at ha; rw [if_pos h2] at hb
        cases hb
        exact absurd ha (hno a)
      · rw [if_neg h1] at ha; rw [if_neg h2] at hb
        exact hi.1 a b m ha hb
  · intro m
    by_cases e : n = m
    · subst e
      simp only [ahas, beq_self, true_iff]
      exact ⟨j, by rw [aget_cons, if_pos rfl]⟩
    · simp only [ahas, beq_ne e]
      rw [hi.2 m]
      constructor
      · rintro ⟨i, hi'⟩
        refine ⟨i, ?_⟩
        rw [aget_cons, if_neg]
        · exact hi'
        · rintro rfl; rw [hj] at hi'; cases hi'
      · rintro ⟨i, hi'⟩
        rw [aget_cons] at hi'
        by_cases h1 : j = i
        · rw [if_pos h1] at hi'; cases hi'; exact absurd rfl e
        · rw [if_neg h1] at hi'; exact ⟨i, hi'⟩
theorem DS.inj_none {d : DS} {j : Nat} (hi : d.inj) (hj : aget d.asg j = none) : DS.inj ⟨(j, none) :: d.asg, d.frz⟩ := by
  have back : ∀ a m, aget ((j, none) :: d.asg) a = some (some m) → aget d.asg a = some (some m) := fun a m ha => by
    rw [aget_cons] at ha
    by_cases h1 : j = a
    · rw [if_pos h1] at ha; cases ha
    · rw [if_neg h1] at ha; exact ha
  constructor
  · exact fun a b m ha hb => hi.1 a b m (back a m ha) (back b m hb)
  · intro m
    simp only [ahas]
    rw [hi.2 m]
    constructor
    · rintro ⟨i, hi'⟩
      refine ⟨i, ?_⟩
      rw [aget_cons, if_neg]
      · exact hi'
      · rintro rfl; rw [hj] at hi'; cases hi'
    · rintro ⟨i, hi'⟩; exact ⟨i, back i m hi'⟩
/-- What must stand at each step of a reading. -/
structure DS.good (h : RH) (d : DS) : Prop where
  inj : d.inj
  rds : d.reads h
theorem bindKey_spec {h : RH} {B : Type u} {d : DS} {j n : Nat} {K : DS → Option B} {r : B} (g : d.good h) (hk : bindKey d j n K = some r) : ∃ d', K d' = some r ∧ d.le d' ∧ d'.good h ∧ aget d'.asg j = some (some n) := by
  unfold bindKey at hk
  split at hk
  · rename_i m hm
    cases hb : Nat.beq m n with
    | false => rw [hb] at hk; cases hk
    | true => rw [hb] at hk; exact ⟨d, hk, DS.le.refl d, g, by rw [hm, beq_eq hb]⟩
  · cases hk
  · rename_i hj
    cases hb : ahas d.asg n with
    | true => rw [hb] at hk; cases hk
    | false =>
      rw [hb] at hk
      refine ⟨_, hk, ⟨fun i x hi => ?_, fun _ h => h⟩, ⟨DS.inj_cons g.inj hj hb, g.rds⟩, by rw [aget_cons, if_pos rfl]⟩
      rw [aget_cons, if_neg]
      · exact hi
      · rintro rfl; rw [hj] at hi; cases hi
theorem bindKeys_spec {h : RH} {B : Type u} : ∀ (js ns : List Nat) (d : DS) (K : DS → Option B) (r : B), d.good h → bindKeys d js ns K = some r → ∃ d', K d' = some r ∧ d.le d' ∧ d'.good h ∧ All2 (fun j n => aget d'.asg j = some (some n)) js ns
  | [], [], d, K, r, g, hk => ⟨d, hk, DS.le.refl d, g, trivial⟩
  | j :: js, n :: ns, d, K, r, g, hk => by
    obtain ⟨d1, h1, h2, h3, h4⟩ := bindKey_spec g (show bindKey d j n (fun d' => bindKeys d' js ns K) = some r from hk)
    obtain ⟨d2, k1, k2, k3, k4⟩ := bindKeys_spec js ns d1 K r h3 h1
    exact ⟨d2, k1, h2.trans k2, k3, k2.asg j _ h4, k4⟩
  | [], _ :: _, _, _, _, _, hk => by cases hk
  | _ :: _, [], _, _, _, _, hk => by cases hk
theorem rowOf_spec {h : RH} {e : Ty} {n : Nat} {l : List e.T} (hr : rowOf h e n = some l) : h n = some (.arr e l) ∨ h n = some (.ice e l) := by
  unfold rowOf at hr
  split at hr
  · split at hr
    · rename_i q; subst q
      simp only [Option.some.injEq] at hr
      subst hr
      exact .inl (by assumption)
    · cases hr
  · split at hr
    · rename_i q; subst q
      simp only [Option.some.injEq] at hr
      subst hr
      exact .inr (by assumption)
    · cases hr
  · cases hr
theorem rowOf_some {h : RH} {e : Ty} {n : Nat} {l : List e.T} (hr : rowOf h e n = some l) : ∃ o, h n = some o := by
  rcases rowOf_spec hr with h | h
  · exact ⟨_, h⟩
  · exact ⟨_, h⟩
theorem bsubOf_some {h : RH} {e : Ty} {n off len st lo hi : Nat} {l : List e.T} (hr : bsubOf h e n off len st lo hi = some l) : ∃ o, h n = some o := by
  unfold bsubOf at hr
  split at hr
  · exact ⟨_, by assumption⟩
  · cases hr
/-- A cell as the shape has it, and as it is. -/
def RelC (h : RH) (d : DS) : CV → CV → Prop
  | .ptr j o, c => ∃ n, aget d.asg j = some (some n) ∧ c = .ptr n o
  | .eptr j i o, c => ∃ n, aget d.asg j = some (some n) ∧ c = .eptr n i o
  | .own j, c => (∃ n, aget d.asg j = some (some n) ∧ c = .own n) ∨ (aget d.asg j = some none ∧ c = .nils)
  | .fn f js, c => ∃ ns, c = .fn f ns ∧ All2 (fun j n => aget d.asg j = some (some n)) js ns
  | .row e l, c => c = .row e l ∨ (l = [] ∧ c = .nils) ∨ (∃ n, n ∈ d.frz ∧ rowOf h e n = some l ∧ c = .own n) ∨ (∃ n lo hi l0, n ∈ d.frz ∧ rowOf h e n = some l0 ∧ l = (l0.take hi).drop lo ∧ c = .sub n lo hi) ∨ (∃ n off len st lo hi, n ∈ d.frz ∧ bsubOf h e n off len st lo hi = some l ∧ c = .bsub n off len st lo hi)
  | .rptr e l i off, c => i = 0 ∧ off = 0 ∧ ((∃ x n ns, l = [x] ∧ c = .ptr n 0 ∧ n ∈ d.frz ∧ (∀ k, k ∈ ns → k ∈ d.frz) ∧ boxOf h e n = some (x, ns)) ∨ ∃ l0 j, c = .rptr e l0 j 0 ∧ l = [l0.getD j e.dflt])
  | .dead, _ => True
  | .int k n, c => c = .int k n
  | .bool b, c => c = .bool b
  | .str s, c => c = .str s
  | .fint n, c => c = .fint n
  | .cint x y, c => c = .cint x y
  | .nilp, c => c = .nilp
  | .nilf, c => c = .nilf
  | .nili, c => c = .nili
  | .nils, c => c = .nils
  | _, _ => False
theorem RelC.mono {h : RH} {d d' : DS} (hd : d.le d') : ∀ {c c' : CV}, RelC h d c c' → RelC h d' c c'
  | .ptr _ _, _, ⟨n, h1, h2⟩ => ⟨n, hd.asg _ _ h1, h2⟩
  | .eptr _ _ _, _, ⟨n, h1, h2⟩ => ⟨n, hd.asg _ _ h1, h2⟩
  | .own _, _, h => h.imp (fun ⟨n, h1, h2⟩ => ⟨n, hd.asg _ _ h1, h2⟩) fun ⟨h1, h2⟩ => ⟨hd.asg _ _ h1, h2⟩
  | .fn _ _, _, ⟨ns, h1, h2⟩ => ⟨ns, h1, All2.mono (fun _ _ q => hd.asg _ _ q) _ _ h2⟩
  | .row _ _, _, h => h.imp id (Or.imp id (Or.imp (fun ⟨n, h1, h2⟩ => ⟨n, hd.frz _ h1, h2⟩) (Or.imp (fun ⟨n, lo, hi, l0, h1, h2⟩ => ⟨n, lo, hi, l0, hd.frz _ h1, h2⟩) fun ⟨n, off, len, st, lo, hi, h1, h2⟩ => ⟨n, off, len, st, lo, hi, hd.frz _ h1, h2⟩)))
  | .dead, _, _ => trivial
  | .int _ _, _, h => h
  | .bool _, _, h => h
  | .str _, _, h => h
  | .fint _, _, h => h
  | .cint _ _, _, h => h
  | .nilp, _, h => h
  | .nilf, _, h => h
  | .nili, _, h => h
  | .nils, _, h => h
  | .aptr _ _ _ _ _ _, _, h => h.elim
  | .sub _ _ _, _, h => h.elim
  | .bsub _ _ _ _ _ _, _, h => h.elim
  | .rptr _ _ _ _, _, ⟨h1, h2, h⟩ => ⟨h1, h2, h.imp (fun ⟨x, n, ns, a, b, c, e, f⟩ => ⟨x, n, ns, a, b, hd.frz _ c, fun k hk => hd.frz _ (e k hk), f⟩) id⟩
  | .ifc _ _ _, _, h => h.elim
/-- A value that a format lays. -/
def Lays {α β : Type} {γ : Type} (enc : {R : Type 1} → β → (γ → α → R) → R) (enc0 : {R : Type} → β → (γ → α → R) → R) (p : α → β) (c : γ) : Prop :=
  (∀ {R : Type 1} (y : α) (K : γ → α → R), enc (p y) K = K c y) ∧ ∀ {R : Type} (y : α) (K : γ → α → R), enc0 (p y) K = K c y
theorem thawC_reads {h : RH} {c c' : CV} {ns : List Nat} (hc : thawC h c = some (c', ns)) : ∀ k, k ∈ ns → ∃ o, h k = some o := by
  intro k hk
  unfold thawC at hc
  split at hc <;> (try split at hc) <;> first | (cases hc; done) | skip
  all_goals (simp only [Option.some.injEq, Prod.mk.injEq] at hc; obtain ⟨_, rfl⟩ := hc)
  all_goals first | (cases hk; done) | (rw [List.mem_singleton.1 hk]; exact ⟨_, by assumption⟩)
theorem thawCs_reads {h : RH} : ∀ (cs : List CV) (cs' : List CV) (ns : List Nat), thawCs h cs = some (cs', ns) → ∀ k, k ∈ ns → ∃ o, h k = some o
  | [], cs', ns, hc, k, hk => by
    simp only [thawCs, Option.some.injEq, Prod.mk.injEq] at hc
    rw [← hc.2] at hk; cases hk
  | c :: cs, cs', ns, hc, k, hk => by
    unfold thawCs at hc
    split at hc
    · rename_i c1 n1 h1
      split at hc
      · rename_i c2 n2 h2
        simp only [Option.some.injEq, Prod.mk.injEq] at hc
        rw [← hc.2] at hk
        rcases List.mem_append.1 hk with hk | hk
        · exact thawC_reads h1 k hk
        · exact thawCs_reads cs c2 n2 h2 k hk
      · cases hc
    · cases hc
theorem boxOf_reads {h : RH} {e : Ty} {n : Nat} {x : e.T} {ns : List Nat} (hx : boxOf h e n = some (x, ns)) : (∃ o, h n = some o) ∧ ∀ k, k ∈ ns → ∃ o, h k = some o := by
  unfold boxOf at hx
  split at hx
  · rename_i cs hcs
    split at hx
    · rename_i cs' ms hms
      split at hx
      · simp only [Option.some.injEq, Prod.mk.injEq] at hx
        obtain ⟨_, rfl⟩ := hx
        exact ⟨⟨_, hcs⟩, thawCs_reads cs cs' _ hms⟩
      · cases hx
    · cases hx
  · cases hx
theorem CF.decK_spec {α : Type} {R : Type u} {h : RH} {d : DS} {c : CF} {v : CV} {K : DS → (α → c.P α) → Option R} {r : R} (g : d.good h) (hk : c.decK h d v K = some r) :
    ∃ d' p cc, K d' p = some r ∧ d.le d' ∧ d'.good h ∧ Lays (fun {R} => c.encK (R := R)) (fun {R} => c.encK (R := R)) p cc ∧ RelC h d' cc v := by
  unfold CF.decK at hk
  split at hk
  · rename_i k k' n _
    split at hk
    · rename_i e; subst e; exact ⟨d, _, .int _ n, hk, DS.le.refl d, g, ⟨fun _ _ => rfl, fun _ _ => rfl⟩, rfl⟩
    · cases hk
  · rename_i b _; exact ⟨d, _, .bool b, hk, DS.le.refl d, g, ⟨fun _ _ => rfl, fun _ _ => rfl⟩, rfl⟩
  · rename_i b _; exact ⟨d, _, .str b, hk, DS.le.refl d, g, ⟨fun _ _ => rfl, fun _ _ => rfl⟩, rfl⟩
  · rename_i b _; exact ⟨d, _, .fint b, hk, DS.le.refl d, g, ⟨fun _ _ => rfl, fun _ _ => rfl⟩, rfl⟩
  · rename_i a b _; exact ⟨d, _, .cint a b, hk, DS.le.refl d, g, ⟨fun _ _ => rfl, fun _ _ => rfl⟩, rfl⟩
  · rename_i e e' l _
    split at hk
    · rename_i q; subst q; exact ⟨d, _, .row e' l, hk, DS.le.refl d, g, ⟨fun _ _ => rfl, fun _ _ => rfl⟩, .inl rfl⟩
    · cases hk
  · rename_i e _; exact ⟨d, _, .row e [], hk, DS.le.refl d, g, ⟨fun _ _ => rfl, fun _ _ => rfl⟩, .inr (.inl ⟨rfl, rfl⟩)⟩
  · rename_i e n off len st lo hi _
    split at hk
    · rename_i l hl
      refine ⟨_, _, .row e l, hk, ⟨fun _ _ h => h, fun _ h => List.mem_cons_of_mem _ h⟩, ⟨g.inj, fun m hm => ?_⟩, ⟨fun _ _ => rfl, fun _ _ => rfl⟩, .inr (.inr (.inr (.inr ⟨n, off, len, st, lo, hi, List.mem_cons_self, hl, rfl⟩)))⟩
      rcases List.mem_cons.1 hm with rfl | hm
      · exact bsubOf_some hl
      · exact g.rds m hm
    · cases hk
  · rename_i e n _
    split at hk
    · rename_i l hl
      refine ⟨_, _, .row e l, hk, ⟨fun _ _ h => h, fun _ h => List.mem_cons_of_mem _ h⟩, ⟨g.inj, fun m hm => ?_⟩, ⟨fun _ _ => rfl, fun _ _ => rfl⟩, .inr (.inr (.inl ⟨n, List.mem_cons_self, hl, rfl⟩))⟩
      rcases List.mem_cons.1 hm with rfl | hm
      · exact rowOf_some hl
      · exact g.rds m hm
    · cases hk
  · rename_i e n lo hi _
    split at hk
    · rename_i l hl
      refine ⟨_, _, .row e ((l.take hi).drop lo), hk, ⟨fun _ _ h => h, fun _ h => List.mem_cons_of_mem _ h⟩, ⟨g.inj, fun m hm => ?_⟩, ⟨fun _ _ => rfl, fun _ _ => rfl⟩, .inr (.inr (.inr (.inl ⟨n, lo, hi, l, List.mem_cons_self, hl, rfl, rfl⟩)))⟩
      rcases List.mem_cons.1 hm with rfl | hm
      · exact rowOf_some hl
      · exact g.rds m hm
    · cases hk
  · exact ⟨d, _, .nilp, hk, DS.le.refl d, g, ⟨fun _ _ => rfl, fun _ _ => rfl⟩, rfl⟩
  · exact ⟨d, _, .nilf, hk, DS.le.refl d, g, ⟨fun _ _ => rfl, fun _ _ => rfl⟩, rfl⟩
  · exact ⟨d, _, .nili, hk, DS.le.refl d, g, ⟨fun _ _ => rfl, fun _ _ => rfl⟩, rfl⟩
  · exact ⟨d, _, .nils, hk, DS.le.refl d, g, ⟨fun _ _ => rfl, fun _ _ => rfl⟩, rfl⟩
  · rename_i j n _
    obtain ⟨d', h1, h2, h3, h4⟩ := bindKey_spec g hk
    exact ⟨d', _, .own j, h1, h2, h3, ⟨fun _ _ => rfl, fun _ _ => rfl⟩, .inl ⟨_, h4, rfl⟩⟩
  · rename_i j _
    split at hk
    · rename_i hj
      refine ⟨_, _, .own j, hk, ⟨fun i x hi => ?_, fun _ h => h⟩, ⟨DS.inj_none g.inj hj, g.rds⟩, ⟨fun _ _ => rfl, fun _ _ => rfl⟩, .inr ⟨by rw [aget_cons, if_pos rfl], rfl⟩⟩
      rw [aget_cons, if_neg]
      · exact hi
      · rintro rfl; rw [hj] at hi; cases hi
    · cases hk
  · rename_i j off n off' _
    cases hb : Nat.beq off off' with
    | false => rw [hb] at hk; cases hk
    | true =>
      rw [hb] at hk
      obtain ⟨d', h1, h2, h3, h4⟩ := bindKey_spec g hk
      exact ⟨d', _, .ptr j off, h1, h2, h3, ⟨fun _ _ => rfl, fun _ _ => rfl⟩, ⟨n, h4, by rw [beq_eq hb]⟩⟩
  · rename_i j off n i off' _
    cases hb : Nat.beq off off' with
    | false => rw [hb] at hk; cases hk
    | true =>
      rw [hb] at hk
      obtain ⟨d', h1, h2, h3, h4⟩ := bindKey_spec g hk
      exact ⟨d', _, .eptr j i off, h1, h2, h3, ⟨fun _ _ => rfl, fun _ _ => rfl⟩, ⟨n, h4, by rw [beq_eq hb]⟩⟩
  · rename_i f js f' ns _
    cases hb : Nat.beq f f' with
    | false => rw [hb] at hk; cases hk
    | true =>
      rw [hb] at hk
      obtain ⟨d', h1, h2, h3, h4⟩ := bindKeys_spec js ns d _ r g hk
      exact ⟨d', _, .fn f js, h1, h2, h3, ⟨fun _ _ => rfl, fun _ _ => rfl⟩, ⟨ns, by rw [beq_eq hb], h4⟩⟩
  · rename_i e n _
    split at hk
    · rename_i x ns hx
      refine ⟨_, _, .rptr e [x] 0 0, hk, ⟨fun _ _ h => h, fun _ h => List.mem_cons_of_mem _ (List.mem_append_right _ h)⟩, ⟨g.inj, fun m hm => ?_⟩, ⟨fun _ _ => rfl, fun _ _ => rfl⟩, rfl, rfl, .inl ⟨x, n, ns, rfl, rfl, List.mem_cons_self, fun k hk => List.mem_cons_of_mem _ (List.mem_append_left _ hk), hx⟩⟩
      obtain ⟨h1, h2⟩ := boxOf_reads hx
      rcases List.mem_cons.1 hm with rfl | hm
      · exact h1
      · rcases List.mem_append.1 hm with hm | hm
        · exact h2 m hm
        · exact g.rds m hm
    · cases hk
  · rename_i e e' l i _
    split at hk
    · rename_i q; subst q
      exact ⟨d, _, .rptr e' [l.getD i e'.dflt] 0 0, hk, DS.le.refl d, g, ⟨fun _ _ => rfl, fun _ _ => rfl⟩, rfl, rfl, .inr ⟨l, i, rfl, rfl⟩⟩
    · cases hk
  · exact ⟨d, _, .dead, hk, DS.le.refl d, g, ⟨fun _ _ => rfl, fun _ _ => rfl⟩, trivial⟩
  · cases hk
theorem decCsK_spec {h : RH} {α : Type} {R : Type u} : ∀ (cs : List CF) (d : DS) (vs : List CV) (K : DS → (α → csT cs α) → Option R) (r : R), d.good h → decCsK h cs d vs K = some r →
    ∃ d' p ccs, K d' p = some r ∧ d.le d' ∧ d'.good h ∧ Lays (fun {R} => encCsK (R := R) cs) (fun {R} => encCsK (R := R) cs) p ccs ∧ All2 (RelC h d') ccs vs
  | [], d, [], K, r, g, hk => ⟨d, id, [], hk, DS.le.refl d, g, ⟨fun _ _ => rfl, fun _ _ => rfl⟩, trivial⟩
  | c :: cs, d, v :: vs, K, r, g, hk => by
    obtain ⟨d1, p, cc, h1, h2, h3, h4, h5⟩ := CF.decK_spec g (show c.decK h d v (fun d' p => decCsK h cs d' vs fun d2 q => K d2 fun y => p (q y)) = some r from hk)
    obtain ⟨d2, q, ccs, k1, k2, k3, k4, k5⟩ := decCsK_spec cs d1 vs _ r h3 h1
    refine ⟨d2, _, cc :: ccs, k1, h2.trans k2, k3, ⟨fun y K' => ?_, fun y K' => ?_⟩, h5.mono k2, k5⟩
    · exact (h4.1 (q y) _).trans (k4.1 y _)
    · exact (h4.2 (q y) _).trans (k4.2 y _)
  | [], _, _ :: _, _, _, _, hk => by cases hk
  | _ :: _, _, [], _, _, _, hk => by cases hk
def RelA (h : RH) (d : DS) : AV → AV → Prop
  | .c x, .c y => RelC h d x y
  | .agg xs, .agg ys => All2 (RelC h d) xs ys
  | _, _ => False
theorem RelA.mono {h : RH} {d d' : DS} (hd : d.le d') : ∀ {c c' : AV}, RelA h d c c' → RelA h d' c c'
  | .c _, .c _, q => RelC.mono hd q
  | .agg _, .agg _, q => All2.mono (fun _ _ => RelC.mono hd) _ _ q
  | .c _, .agg _, q => q.elim
  | .agg _, .c _, q => q.elim
def RelO (h : RH) (d : DS) : Obj → Option Obj → Prop
  | .box cs, some (.box vs) => All2 (RelC h d) cs vs
  | .arr e l, some (.arr e' l') => (⟨e, l⟩ : (e : Ty) × List e.T) = ⟨e', l'⟩
  | .arr e l, none => l = []
  | _, _ => False
theorem RelO.mono {h : RH} {d d' : DS} (hd : d.le d') : ∀ {c : Obj} {c' : Option Obj}, RelO h d c c' → RelO h d' c c'
  | .box _, some (.box _), q => All2.mono (fun _ _ => RelC.mono hd) _ _ q
  | .arr _ _, some (.arr _ _), q => q
  | .arr _ _, none, q => q
  | .box _, some (.arr _ _), q => q.elim
  | .box _, some (.ice _ _), q => q.elim
  | .box _, none, q => q.elim
  | .arr _ _, some (.box _), q => q.elim
  | .arr _ _, some (.ice _ _), q => q.elim
  | .ice _ _, _, q => q.elim
theorem AF.decK_spec {α : Type} {R : Type u} {h : RH} {d : DS} : ∀ {a : AF} {v : AV} {K : DS → (α → a.P α) → Option R} {r : R}, d.good h → a.decK h d v K = some r →
    ∃ d' p cc, K d' p = some r ∧ d.le d' ∧ d'.good h ∧ Lays (fun {R} => a.encK (R := R)) (fun {R} => a.encK (R := R)) p cc ∧ RelA h d' cc v
  | .c x, .c v, K, r, g, hk => by
    obtain ⟨d1, p, cc, h1, h2, h3, h4, h5⟩ := CF.decK_spec g (show x.decK h d v K = some r from hk)
    exact ⟨d1, p, .c cc, h1, h2, h3, ⟨fun y K' => h4.1 y _, fun y K' => h4.2 y _⟩, h5⟩
  | .agg xs, .agg vs, K, r, g, hk => by
    obtain ⟨d1, p, cc, h1, h2, h3, h4, h5⟩ := decCsK_spec xs d vs K r g hk
    exact ⟨d1, p, .agg cc, h1, h2, h3, ⟨fun y K' => h4.1 y _, fun y K' => h4.2 y _⟩, h5⟩
  | .c _, .agg _, _, _, _, hk => by cases hk
  | .agg _, .c _, _, _, _, hk => by cases hk
def OfFormat : OF → Obj → Prop
  | .arr e, o => ∃ l, o = .arr e l
  | .box _, o => ∃ l, o = .box l
theorem OF.decK_spec {α : Type} {R : Type u} {h : RH} {d : DS} {o : OF} {v : Option Obj} {K : DS → (α → o.P α) → Option R} {r : R} (g : d.good h) (hk : o.decK h d v K = some r) :
    ∃ d' p cc, K d' p = some r ∧ d.le d' ∧ d'.good h ∧ Lays (fun {R} => o.encK (R := R)) (fun {R} => o.encK (R := R)) p cc ∧ RelO h d' cc v ∧ OfFormat o cc ∧ cc.iced = false := by
  unfold OF.decK at hk
  split at hk
  · rename_i cs vs K'
    obtain ⟨d1, p, cc, h1, h2, h3, h4, h5⟩ := decCsK_spec _ d _ K' r g hk
    exact ⟨d1, p, .box cc, h1, h2, h3, ⟨fun y K' => h4.1 y _, fun y K' => h4.2 y _⟩, h5, ⟨_, rfl⟩, rfl⟩
  · rename_i e e' l _
    split at hk
    · rename_i q; subst q
      exact ⟨d, _, .arr e' l, hk, DS.le.refl d, g, ⟨fun _ _ => rfl, fun _ _ => rfl⟩, rfl, ⟨_, rfl⟩, rfl⟩
    · cases hk
  · rename_i e _; exact ⟨d, _, .arr e [], hk, DS.le.refl d, g, ⟨fun _ _ => rfl, fun _ _ => rfl⟩, rfl, ⟨_, rfl⟩, rfl⟩
  · cases hk
/-- Slots as the shape has them, and as they are. -/
def RelS (h : RH) (d : DS) (g : Nat → Option AV) (x : Nat × AF) (y : Nat × AV) : Prop := x.1 = y.1 ∧ ∃ a, g y.1 = some a ∧ RelA h d y.2 a
theorem RelS.mono {h : RH} {d d' : DS} {g : Nat → Option AV} (hd : d.le d') {x : Nat × AF} {y : Nat × AV} (q : RelS h d g x y) : RelS h d' g x y := ⟨q.1, q.2.elim fun a k => ⟨a, k.1, k.2.mono hd⟩⟩
theorem decSlK_spec {h : RH} {g : Nat → Option AV} {α : Type} {R : Type u} : ∀ (ss : List (Nat × AF)) (d : DS) (K : DS → (α → slT ss α) → Option R) (r : R), d.good h → decSlK h g ss d K = some r →
    ∃ d' p as, K d' p = some r ∧ d.le d' ∧ d'.good h ∧ Lays (fun {R} => encSlK (R := R) ss) (fun {R} => encSlK (R := R) ss) p as ∧ All2 (RelS h d' g) ss as
  | [], d, K, r, gd, hk => ⟨d, id, [], hk, DS.le.refl d, gd, ⟨fun _ _ => rfl, fun _ _ => rfl⟩, trivial⟩
  | s :: ss, d, K, r, gd, hk => by
    unfold decSlK at hk
    split at hk
    · rename_i a ha
      obtain ⟨d1, p, cc, h1, h2, h3, h4, h5⟩ := AF.decK_spec gd hk
      obtain ⟨d2, q, ccs, k1, k2, k3, k4, k5⟩ := decSlK_spec ss d1 _ r h3 h1
      refine ⟨d2, _, (s.1, cc) :: ccs, k1, h2.trans k2, k3, ⟨fun y K' => ?_, fun y K' => ?_⟩, ⟨rfl, a, ha, h5.mono k2⟩, k5⟩
      · exact (h4.1 (q y) _).trans (k4.1 y _)
      · exact (h4.2 (q y) _).trans (k4.2 y _)
    · cases hk
/-- Objects as the shape has them, and as they are. -/
def RelB (h : RH) (d : DS) (x : Nat × OF) (y : Nat × Obj) : Prop :=
  x.1 = y.1 ∧ y.2.iced = false ∧ OfFormat x.2 y.2 ∧ ((∃ n o, aget d.asg y.1 = some (some n) ∧ h n = some o ∧ RelO h d y.2 (some o)) ∨ (aget d.asg y.1 = some none ∧ RelO h d y.2 none))
theorem RelB.mono {h : RH} {d d' : DS} (hd : d.le d') {x : Nat × OF} {y : Nat × Obj} (q : RelB h d x y) : RelB h d' x y :=
  ⟨q.1, q.2.1, q.2.2.1, q.2.2.2.imp (fun ⟨n, o, h1, h2, h3⟩ => ⟨n, o, hd.asg _ _ h1, h2, h3.mono hd⟩) fun ⟨h1, h2⟩ => ⟨hd.asg _ _ h1, h2.mono hd⟩⟩
theorem decObK_spec {h : RH} {α : Type} {R : Type u} : ∀ (ss : List (Nat × OF)) (d : DS) (K : DS → (α → obT ss α) → Option R) (r : R), d.good h → decObK h ss d K = some r →
    ∃ d' p os, K d' p = some r ∧ d.le d' ∧ d'.good h ∧ Lays (fun {R} => encObK (R := R) ss) (fun {R} => encObK (R := R) ss) p os ∧ All2 (RelB h d') ss os
  | [], d, K, r, gd, hk => ⟨d, id, [], hk, DS.le.refl d, gd, ⟨fun _ _ => rfl, fun _ _ => rfl⟩, trivial⟩
  | s :: ss, d, K, r, gd, hk => by
    have fin : ∀ (v : Option Obj), s.2.decK h d v (fun d' p => decObK h ss d' fun d2 q => K d2 fun y => p (q y)) = some r →
        (∀ d1 cc, d.le d1 → RelO h d1 cc v → (∃ n o, aget d1.asg s.1 = some (some n) ∧ h n = some o ∧ RelO h d1 cc (some o)) ∨ (aget d1.asg s.1 = some none ∧ RelO h d1 cc none)) →
        ∃ d' p os, K d' p = some r ∧ d.le d' ∧ d'.good h ∧ Lays (fun {R} => encObK (R := R) (s :: ss)) (fun {R} => encObK (R := R) (s :: ss)) p os ∧ All2 (RelB h d') (s :: ss) os := fun v hv hrel => by
      obtain ⟨d1, p, cc, h1, h2, h3, h4, h5, h6, h7⟩ := OF.decK_spec gd hv
      obtain ⟨d2, q, ccs, k1, k2, k3, k4, k5⟩ := decObK_spec ss d1 _ r h3 h1
      refine ⟨d2, _, (s.1, cc) :: ccs, k1, h2.trans k2, k3, ⟨fun y K' => ?_, fun y K' => ?_⟩, RelB.mono k2 ⟨rfl, h7, h6, hrel d1 cc h2 h5⟩, k5⟩
      · exact (h4.1 (q y) _).trans (k4.1 y _)
      · exact (h4.2 (q y) _).trans (k4.2 y _)
    have hk' : decOb1K h d s.2 (fun d' p => decObK h ss d' fun d2 q => K d2 fun y => p (q y)) (aget d.asg s.1) = some r := hk
    unfold decOb1K at hk'
    split at hk'
    · rename_i n hn
      split at hk'
      · rename_i o ho
        exact fin (some o) hk' fun d1 cc hle hr => .inl ⟨n, o, hle.asg _ _ hn, ho, hr⟩
      · cases hk'
    · rename_i hn
      exact fin none hk' fun d1 cc hle hr => .inr ⟨hle.asg _ _ hn, hr⟩
    · cases hk'
theorem ok_spec (d : DS) : ∀ (l : List Nat), d.ok l = true → ∀ n, n ∈ l → ahas d.asg n = false
  | [], _, n, hn => by cases hn
  | m :: l, h, n, hn => by
    simp only [DS.ok] at h
    cases hb : ahas d.asg m with
    | true => rw [hb] at h; cases h
    | false =>
      rw [hb] at h
      rcases List.mem_cons.1 hn with rfl | hn
      · exact hb
      · exact ok_spec d l h n hn
theorem idAsg_get : ∀ (m : List Nat) (j : Nat), aget (idAsg m) j = if j ∈ m then some (some j) else none
  | [], j => by simp [idAsg, aget]
  | k :: m, j => by
    rw [idAsg, aget_cons, idAsg_get m j]
    by_cases h : k = j
    · rw [if_pos h, if_pos (by rw [h]; exact List.mem_cons_self), h]
    · rw [if_neg h]
      by_cases h2 : j ∈ m
      · rw [if_pos h2, if_pos (List.mem_cons_of_mem _ h2)]
      · rw [if_neg h2, if_neg (by simp only [List.mem_cons, not_or]; exact ⟨Ne.symm h, h2⟩)]
theorem idAsg_has : ∀ (m : List Nat) (n : Nat), ahas (idAsg m) n = true ↔ n ∈ m
  | [], n => by simp [idAsg, ahas]
  | k :: m, n => by
    by_cases h : k = n
    · subst h; simp [idAsg, ahas, beq_self]
    · simp only [idAsg, ahas, beq_ne h, idAsg_has m n, List.mem_cons]
      constructor
      · exact .inr
      · exact fun q => q.resolve_left (Ne.symm h)
theorem idAsg_inj (m : List Nat) : DS.inj ⟨idAsg m, []⟩ := by
  constructor
  · intro i j n hi hj
    simp only [idAsg_get] at hi hj
    split at hi <;> split at hj <;> (try simp only [Option.some.injEq] at hi hj) <;> first | (cases hi; done) | (cases hj; done) | omega
  · intro n
    rw [idAsg_has]
    constructor
    · intro h; exact ⟨n, by simp only [idAsg_get, if_pos h]⟩
    · rintro ⟨j, hj⟩
      simp only [idAsg_get] at hj
      split at hj
      · rename_i hm
        simp only [Option.some.injEq] at hj; exact hj ▸ hm
      · cases hj
/-- What a whole reading tells. -/
structure Read (s : Shape) (m : List Nat) (h : RH) (g : Nat → Option AV) (x : s.X) (d : DS) (as : List (Nat × AV)) (os : Heap) : Prop where
  enc1 : ∀ {R : Type 1} (K : List (Nat × AV) → Heap → R), s.encK x K = K as os
  enc0 : ∀ {R : Type} (K : List (Nat × AV) → Heap → R), s.encK x K = K as os
  sl : All2 (RelS h d g) s.sl as
  ob : All2 (RelB h d) s.ob os
  good : d.good h
  ok : ∀ n, n ∈ d.frz → ∀ j, aget d.asg j ≠ some (some n)
  ids : ∀ j, j ∈ m → aget d.asg j = some (some j)
theorem Shape.decK_spec {R : Type u} {s : Shape} {m : List Nat} {h : RH} {g : Nat → Option AV} {K : s.X → DS → Option R} {r : R} (hk : s.decK m h g K = some r) : ∃ x d as os, K x d = some r ∧ Read s m h g x d as os := by
  unfold Shape.decK at hk
  have g0 : DS.good h ⟨idAsg m, []⟩ := ⟨idAsg_inj m, fun n hn => by cases hn⟩
  obtain ⟨d1, p, as, h1, h2, h3, h4, h5⟩ := decSlK_spec s.sl _ _ r g0 hk
  obtain ⟨d2, q, os, k1, k2, k3, k4, k5⟩ := decObK_spec s.ob d1 _ r h3 h1
  cases hb : d2.ok d2.frz with
  | false => rw [hb] at k1; cases k1
  | true =>
    rw [hb] at k1
    refine ⟨p (q ()), d2, as, os, k1, ⟨fun K' => ?_, fun K' => ?_, All2.mono (fun _ _ => RelS.mono k2) _ _ h5, k5, k3, fun n hn j hj => ?_, fun j hj => (h2.trans k2).asg j _ (by rw [idAsg_get, if_pos hj])⟩⟩
    · exact (h4.1 (q ()) _).trans (k4.1 () _)
    · exact (h4.2 (q ()) _).trans (k4.2 () _)
    · have := ok_spec d2 d2.frz hb n hn
      rw [(k3.inj.2 n).2 ⟨j, hj⟩] at this
      cases this
end Go.Proofs.Ytmffnlcmklapmaa.Mx

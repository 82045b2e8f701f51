/- Regions: operations one after another, in any order that is let (own work). -/
import Derived.Test.YtmffnlcmklapmaaMxQ
namespace Go.Proofs.Ytmffnlcmklapmaa.Mx
open Go
set_option autoImplicit false
set_option linter.unusedVariables false
set_option linter.unusedSimpArgs false
universe u
variable {P : Program}
/-! ### forced values, slots -/
theorem CV.force_eq {R : Type u} (c : CV) (K : CV → R) : c.force K = K c := by cases c <;> rfl
theorem forceCs_eq {R : Type u} : ∀ (cs : List CV) (K : List CV → R), forceCs cs K = K cs
  | [], K => rfl
  | c :: cs, K => by rw [forceCs, CV.force_eq, forceCs_eq cs]
theorem AV.force_eq {R : Type u} (a : AV) (K : AV → R) : a.force K = K a := by
  cases a with
  | c x => rw [AV.force, CV.force_eq]
  | agg xs => rw [AV.force, forceCs_eq]
theorem forceAs_eq {R : Type u} : ∀ (cs : List AV) (K : List AV → R), forceAs cs K = K cs
  | [], K => rfl
  | .c x :: cs, K => by simp only [forceAs, AV.force_eq, forceAs_eq cs]
  | .agg x :: cs, K => by simp only [forceAs, AV.force_eq, forceAs_eq cs]
theorem SV.force_eq {R : Type u} (a : SV) (K : SV → R) : a.force K = K a := by
  cases a with
  | v x => rw [SV.force, AV.force_eq]
  | tup xs => rw [SV.force, forceAs_eq]
theorem setK_eq {R : Type u} : ∀ (l : List SV) (n : Nat) (v : SV) (K : List SV → R), setK l n v K = K (l.set n v)
  | [], _, _, _ => rfl
  | _ :: _, 0, _, _ => rfl
  | x :: l, n + 1, v, K => by rw [setK, setK_eq l n v]; rfl
theorem getS_set : ∀ (l : List SV) (n m : Nat) (v : SV), getS (l.set n v) m = if n = m ∧ n < l.length then v else getS l m
  | [], n, m, v => by simp [getS]
  | x :: l, 0, 0, v => by simp [getS]
  | x :: l, 0, m + 1, v => by simp [getS]
  | x :: l, n + 1, 0, v => by simp [getS]
  | x :: l, n + 1, m + 1, v => by
    simp only [List.set_cons_succ, getS, getS_set l n m v, List.length_cons]
    congr 1
    simp only [eq_iff_iff]
    omega
theorem set_same : ∀ (l : List SV) (n : Nat), l.set n (getS l n) = l
  | [], _ => rfl
  | x :: l, 0 => rfl
  | x :: l, n + 1 => by simp only [List.set_cons_succ, getS, set_same l n]
def putS (l : List SV) (d : Option Nat) (v : SV) : List SV :=
  match d with
  | none => l
  | some n => l.set n v
theorem putDst_eq {R : Type} (l : List SV) (d : Option Nat) (v : SV) (K : List SV → R) : putDst l d v K = K (putS l d v) := by
  cases d with
  | none => rfl
  | some n => exact setK_eq l n v K
theorem putS_len (l : List SV) (d : Option Nat) (v : SV) : (putS l d v).length = l.length := by cases d <;> simp [putS]
theorem put_size (a : Act) (d : Option Tmp) (V : Value) : (a.put d V).tmps.size = a.tmps.size := by cases d <;> simp [Act.put]
theorem put_defers' (a : Act) (d : Option Tmp) (V : Value) : (a.put d V).defers = a.defers := by cases d <;> simp [Act.put]
theorem getS_out : ∀ (l : List SV) (n : Nat), l.length ≤ n → getS l n = .dead
  | [], _, _ => rfl
  | _ :: _, 0, h => by simp at h
  | _ :: l, n + 1, h => getS_out l n (by simpa using h)
theorem SlR.put {g : Gh} {hp : HP} {sl : List SV} {a : Act} {v : SV} {V : Value} (h : SlR g hp sl a) (hl : sl.length ≤ a.tmps.size) (hv : SVR g hp v V) (d : Option Tmp) : SlR g hp (putS sl d v) (a.put d V) := by
  cases d with
  | none => exact h
  | some n =>
    intro m
    simp only [putS, getS_set, Act.put]
    by_cases e : n = m ∧ n < sl.length
    · obtain ⟨rfl, e2⟩ := e
      have : n < a.tmps.size := Nat.lt_of_lt_of_le e2 hl
      simp only [e2, and_self, if_true]
      rw [Array.getD_eq_getD_getElem?, Array.getElem?_setIfInBounds_self_of_lt this]
      exact hv
    · rw [if_neg e]
      by_cases e2 : n = m
      · subst e2
        have h3 : ¬ n < sl.length := fun h => e ⟨rfl, h⟩
        have : getS sl n = .dead := getS_out sl n (Nat.not_lt.1 h3)
        rw [this]
        trivial
      · rw [Array.getD_eq_getD_getElem?, Array.getElem?_setIfInBounds_ne e2, ← Array.getD_eq_getD_getElem?]
        exact h m
theorem SlR.stab {g g' : Gh} {hp hp' : HP} {sl : List SV} {a : Act} (h : SlR g hp sl a) (s : Stab g hp g' hp') : SlR g' hp' sl a := fun t => SVR.stab s _ _ (h t)
/-! ### one operation, straight -/
def stepE (E : Env) (ops : List Oper) (o : Oper) (base : Nat) (sl : List SV) (H : HF) : Option (SV × HF × FP) :=
  match o.guard with
  | none => (opM E sl o.type o.op).eval base H ⟨[], []⟩
  | some (j, want) => match guardSlot ops j with
    | none => none
    | some t => match getS sl t with
      | .v (.c (.bool b)) => if b = want then (opM E sl o.type o.op).eval base H ⟨[], []⟩ else some (.tup [], H, ⟨[], []⟩)
      | .tup [] => some (.tup [], H, ⟨[], []⟩)
      | _ => none
theorem runOp_E {A : Type} {E : Env} {o : Oper} {sl : List SV} {h : Heap} {base : Nat} {K : List SV → Heap → FP → Option A} {r : A} (hr : runOp E o sl h base K = some r) :
    ∃ v h' fp, (opM E sl o.type o.op).eval base (hget h) ⟨[], []⟩ = some (v, hget h', fp) ∧ K (putS sl o.dst v) h' fp = some r := by
  unfold runOp at hr
  obtain ⟨v, h', fp, h1, h2⟩ := MA.run_eval _ _ _ _ _ _ hr
  rw [SV.force_eq, putDst_eq] at h2
  exact ⟨v, h', fp, h1, h2⟩
theorem stepOp_E {A : Type} {E : Env} {ops : List Oper} {o : Oper} {sl : List SV} {h : Heap} {base : Nat} {K : List SV → Heap → FP → Option A} {r : A} (hr : stepOp E ops o sl h base K = some r) :
    ∃ v h' fp, stepE E ops o base sl (hget h) = some (v, hget h', fp) ∧ K (putS sl o.dst v) h' fp = some r := by
  unfold stepOp at hr
  unfold stepE
  split at hr
  · rename_i hg
    simp only [hg]
    exact runOp_E hr
  · rename_i j want hg
    simp only [hg]
    split at hr
    · cases hr
    · rename_i t ht
      simp only [ht]
      split at hr
      · rename_i b hb
        have same : sl.set t (.v (.c (.bool b))) = sl := by rw [← hb]; exact set_same sl t
        simp only [hb]
        have dead : putDst sl o.dst (.tup []) (fun sl2 => K sl2 h ⟨[], []⟩) = some r → ∃ v h' fp, some (SV.tup [], hget h, (⟨[], []⟩ : FP)) = some (v, hget h', fp) ∧ K (putS sl o.dst v) h' fp = some r := fun q => by
          rw [putDst_eq] at q
          exact ⟨_, h, _, rfl, q⟩
        cases b with
        | false =>
          simp only [setK_eq, same] at hr
          cases want with
          | false => simp only [if_true]; exact runOp_E hr
          | true => simp only [Bool.false_eq_true, if_false]; exact dead hr
        | true =>
          simp only [setK_eq, same] at hr
          cases want with
          | false => simp only [Bool.true_eq_false, if_false]; exact dead hr
          | true => simp only [if_true]; exact runOp_E hr
      · rename_i hb
        simp only [hb]
        rw [putDst_eq] at hr
        exact ⟨_, h, _, rfl, hr⟩
      · cases hr
/-- Operations one after another; F tells what each touches. -/
inductive Runs (E : Env) (ops : List Oper) (next : Nat) (F : Nat → FP) : List Nat → List SV → HF → List SV → HF → Prop where
  | nil (sl : List SV) (H : HF) : Runs E ops next F [] sl H sl H
  | cons {i : Nat} {is : List Nat} {sl sl' : List SV} {H H1 H' : HF} {o : Oper} {v : SV} (ho : ops[i]? = some o) (hs : stepE E ops o (next + keys * i) sl H = some (v, H1, F i)) (hr : Runs E ops next F is (putS sl o.dst v) H1 sl' H') :
    Runs E ops next F (i :: is) sl H sl' H'
def idx : Nat → Nat → List Nat
  | _, 0 => []
  | i, n + 1 => i :: idx (i + 1) n
theorem Runs.congr {E : Env} {ops : List Oper} {next : Nat} {F G : Nat → FP} {is : List Nat} {sl sl' : List SV} {H H' : HF} (h : Runs E ops next F is sl H sl' H') : (∀ i, i ∈ is → G i = F i) → Runs E ops next G is sl H sl' H' := by
  induction h with
  | nil sl H => intro _; exact .nil sl H
  | cons ho hs hr ih => intro hg; exact .cons ho (by rw [hg _ List.mem_cons_self]; exact hs) (ih fun i hi => hg i (List.mem_cons_of_mem _ hi))
theorem mem_idx : ∀ (n i j : Nat), j ∈ idx i n ↔ i ≤ j ∧ j < i + n
  | 0, i, j => by simp [idx]
  | n + 1, i, j => by simp only [idx, List.mem_cons, mem_idx n (i + 1) j]; omega
theorem runOps_E {A : Type} {E : Env} {ops : List Oper} {next : Nat} : ∀ (os : List Oper) (i : Nat) (sl : List SV) (h : Heap) (fps : List FP) (K : List SV → Heap → List FP → Option A) (r : A), (∀ k o, os[k]? = some o → ops[i + k]? = some o) →
    runOps E ops os sl h (next + keys * i) fps K = some r → ∃ (sl' : List SV) (h' : Heap) (l : List FP), l.length = os.length ∧ K sl' h' (l.reverse ++ fps) = some r ∧ Runs E ops next (fun k => l.getD (k - i) ⟨[], []⟩) (idx i os.length) sl (hget h) sl' (hget h')
  | [], i, sl, h, fps, K, r, _, hr => ⟨sl, h, [], rfl, hr, .nil _ _⟩
  | o :: os, i, sl, h, fps, K, r, ho, hr => by
    obtain ⟨v, h1, fp, h2, h3⟩ := stepOp_E (show stepOp E ops o sl h (next + keys * i) (fun sl' h' fp => runOps E ops os sl' h' (next + keys * i + keys) (fp :: fps) K) = some r from hr)
    rw [show next + keys * i + keys = next + keys * (i + 1) by rw [Nat.mul_add, Nat.mul_one, Nat.add_assoc]] at h3
    obtain ⟨sl', h', l, k1, k2, k3⟩ := runOps_E os (i + 1) _ h1 (fp :: fps) K r (fun k o' hk => by rw [show i + 1 + k = i + (k + 1) by omega]; exact ho (k + 1) o' (by simpa using hk)) h3
    refine ⟨sl', h', fp :: l, by simp [k1], by simpa using k2, ?_⟩
    refine .cons (ho 0 o rfl) (v := v) (H1 := hget h1) (by rw [h2, Nat.sub_self]; rfl) (k3.congr fun j hj => ?_)
    have := (mem_idx _ _ _).1 hj
    rw [show j - i = (j - (i + 1)) + 1 by omega]
    rfl
/-! ### what an operation looks at -/
theorem opM_congr {E : Env} {sl sl' : List SV} {ty : Nat} (op : Op) (h : ∀ x, x ∈ op.operands.toList → rd sl x = rd sl' x) : opM E sl ty op = opM E sl' ty op := by
  have two : ∀ (ps : List (Nat × Operand)), (∀ p, p ∈ ps → rd sl p.2 = rd sl' p.2) → pairsOf sl ps = pairsOf sl' ps := fun ps hp => List.map_congr_left fun p hp' => by rw [hp p hp']
  have all : ∀ (ps : List Operand), (∀ p, p ∈ ps → rd sl p = rd sl' p) → ps.map (rd sl) = ps.map (rd sl') := fun ps hp => List.map_congr_left hp
  cases op with
  | move x => simp only [opM, h x (by simp [Op.operands])]
  | assign x => simp only [opM, h x (by simp [Op.operands])]
  | pick c x y => simp only [opM, h c (by simp [Op.operands]), h x (by simp [Op.operands]), h y (by simp [Op.operands])]
  | alloc e => rfl
  | box e x => simp only [opM, h x (by simp [Op.operands])]
  | build t ps => simp only [opM, two ps.toList (fun p hp => h p.2 (by simp only [Op.operands]; exact List.mem_map_of_mem hp))]
  | buildSlice t n ps => simp only [opM, two ps.toList (fun p hp => h p.2 (by simp only [Op.operands]; exact List.mem_map_of_mem hp))]
  | load t x => simp only [opM, h x (by simp [Op.operands])]
  | store t x y => simp only [opM, h x (by simp [Op.operands]), h y (by simp [Op.operands])]
  | nilCheck x => simp only [opM, h x (by simp [Op.operands])]
  | binOp op t x y z => simp only [opM, h x (by simp [Op.operands]), h y (by simp [Op.operands])]
  | unOp op t x => simp only [opM, h x (by simp [Op.operands])]
  | convert s d x => simp only [opM, h x (by simp [Op.operands])]
  | makeFunc fn first captured =>
    cases fn with
    | func f => simp only [opM, all captured.toList (fun p hp => h p (by simp only [Op.operands, Array.toList_append, List.mem_append]; exact .inr hp))]
    | _ => rfl
  | makeSlice t l c => simp only [opM, h l (by simp [Op.operands]), h c (by simp [Op.operands])]
  | slice t x lo hi mx =>
    cases mx with
    | some _ => rfl
    | none =>
      have e1 : lo.map (rd sl) = lo.map (rd sl') := by
        cases lo with
        | none => rfl
        | some y => simp only [Option.map_some, h y (by simp [Op.operands])]
      have e2 : hi.map (rd sl) = hi.map (rd sl') := by
        cases hi with
        | none => rfl
        | some y => simp only [Option.map_some, h y (by simp [Op.operands])]
      simp only [opM, h x (by simp [Op.operands]), e1, e2]
  | fieldAddr s x f => simp only [opM, h x (by simp [Op.operands])]
  | field s x f => simp only [opM, h x (by simp [Op.operands])]
  | indexAddr t x i => simp only [opM, h x (by simp [Op.operands]), h i (by simp [Op.operands])]
  | index t x i => simp only [opM, h x (by simp [Op.operands]), h i (by simp [Op.operands])]
  | extract t i => simp only [opM, h t (by simp [Op.operands])]
  | call c =>
    obtain ⟨callee, args, ts⟩ := c
    have e1 : args.toList.map (rd sl) = args.toList.map (rd sl') := all args.toList fun p hp => h p (by cases callee <;> simp [Op.operands, Call.operands] <;> simp_all)
    cases callee with
    | value f => simp only [opM, e1, h f (by simp [Op.operands, Call.operands])]
    | invoke r n => rfl
    | builtin b =>
      have e2 : ∀ x, x ∈ args.toList → rd sl x = rd sl' x := fun x hx => h x (by simp [Op.operands, Call.operands]; simpa using hx)
      cases b with
      | len =>
        simp only [opM]
        split
        · rename_i t x ht hx; rw [e2 x (by rw [hx]; simp)]
        · rfl
      | cap =>
        simp only [opM]
        split
        · rename_i t x ht hx; rw [e2 x (by rw [hx]; simp)]
        · rfl
      | append =>
        simp only [opM]
        split
        · rename_i t t' x y ht hx; rw [e2 x (by rw [hx]; simp), e2 y (by rw [hx]; simp)]
        · rfl
      | min => simp only [opM, e1]
      | max => simp only [opM, e1]
      | complex => simp only [opM, e1]
      | real => simp only [opM, e1]
      | imag => simp only [opM, e1]
      | _ => rfl
  | _ => rfl
theorem stepE_congr {E : Env} {ops : List Oper} {o : Oper} {base : Nat} {sl sl' : List SV} {H : HF} (h : ∀ t, t ∈ looks ops o → getS sl t = getS sl' t) : stepE E ops o base sl H = stepE E ops o base sl' H := by
  have e : opM E sl o.type o.op = opM E sl' o.type o.op := opM_congr o.op fun x hx => by
    cases x with
    | tmp t =>
      refine h t ?_
      unfold looks
      refine List.mem_append_left _ ?_
      exact List.mem_filterMap.2 ⟨.tmp t, hx, rfl⟩
    | _ => rfl
  unfold stepE
  split
  · rw [e]
  · rename_i j want hg
    split
    · rfl
    · rename_i t ht
      rw [h t (by unfold looks; rw [hg]; refine List.mem_append_right _ ?_; simp only [ht]; simp), e]
theorem stepE_local {E : Env} {ops : List Oper} {o : Oper} {base : Nat} {sl : List SV} {H H' : HF} {v : SV} {fp : FP} (h : stepE E ops o base sl H = some (v, H', fp)) :
    (∀ n, n ∉ fp.writes → H' n = H n) ∧ ∀ H2 : HF, (∀ n, n ∈ fp.reads ∨ n ∈ fp.writes → H2 n = H n) → stepE E ops o base sl H2 = some (v, fun n => if n ∈ fp.writes then H' n else H2 n, fp) := by
  have loc : (opM E sl o.type o.op).eval base H ⟨[], []⟩ = some (v, H', fp) → (∀ n, n ∉ fp.writes → H' n = H n) ∧ ∀ H2 : HF, (∀ n, n ∈ fp.reads ∨ n ∈ fp.writes → H2 n = H n) → (opM E sl o.type o.op).eval base H2 ⟨[], []⟩ = some (v, fun n => if n ∈ fp.writes then H' n else H2 n, fp) := fun h => by
    obtain ⟨R, W, e, h1, h2⟩ := MA.eval_local _ _ _ _ _ _ _ h
    simp only [List.append_nil] at e
    subst e
    refine ⟨h1, fun H2 hH => ?_⟩
    have := h2 H2 ⟨[], []⟩ hH
    simpa using this
  unfold stepE at h ⊢
  split at h
  · exact loc h
  · split at h
    · cases h
    · split at h
      · split at h
        · rename_i hw
          simp only [hw, if_true]
          exact loc h
        · rename_i hw
          simp only [Option.some.injEq, Prod.mk.injEq] at h
          obtain ⟨rfl, rfl, rfl⟩ := h
          refine ⟨fun _ _ => rfl, fun H2 _ => ?_⟩
          simp only [hw, if_false, List.not_mem_nil]
      · simp only [Option.some.injEq, Prod.mk.injEq] at h
        obtain ⟨rfl, rfl, rfl⟩ := h
        refine ⟨fun _ _ => rfl, fun H2 _ => ?_⟩
        simp only [if_false, List.not_mem_nil]
      · cases h
structure Apart (ops : List Oper) (a b : Oper) (p q : FP) : Prop where
  ab : ∀ d, a.dst = some d → d ∉ looks ops b
  ba : ∀ d, b.dst = some d → d ∉ looks ops a
  dd : ∀ d, a.dst = some d → b.dst ≠ some d
  wr : ∀ n, n ∈ p.writes → n ∉ q.reads ∧ n ∉ q.writes
  rw : ∀ n, n ∈ p.reads → n ∉ q.writes
theorem any_beq {l : List Nat} {x : Nat} : (l.any (Nat.beq x)) = true ↔ x ∈ l := by
  rw [List.any_eq_true]
  constructor
  · rintro ⟨y, h1, h2⟩; rw [beq_eq h2]; exact h1
  · exact fun h => ⟨x, h, beq_self x⟩
theorem meets_false {a b : List Nat} (h : meets a b = false) : ∀ x, x ∈ a → x ∉ b := fun x hx hb => by
  unfold meets at h
  have : (a.any fun x => b.any (Nat.beq x)) = true := List.any_eq_true.2 ⟨x, hx, any_beq.2 hb⟩
  rw [this] at h; cases h
theorem apart_spec {ops : List Oper} {a b : Oper} {p q : FP} (h : apart ops a b p q = true) : Apart ops a b p q := by
  simp only [apart, Bool.and_eq_true, Bool.not_eq_true'] at h
  obtain ⟨⟨⟨⟨h1, h2⟩, h3⟩, h4⟩, h5⟩ := h
  have di : ∀ (x : Option Nat) (l : List Nat), dstIn x l = false → ∀ d, x = some d → d ∉ l := fun x l hx d hd hm => by
    subst hd
    unfold dstIn at hx
    simp only at hx
    rw [any_beq.2 hm] at hx; cases hx
  refine ⟨di _ _ h1, di _ _ h2, fun d hd hb => di _ _ h3 d hd (by rw [hb]; simp), fun n hn => ?_, meets_false h5⟩
  have := meets_false h4 n hn
  simp only [List.mem_append, not_or] at this
  exact this
theorem getS_putS {sl : List SV} {d : Option Nat} {v : SV} {t : Nat} (h : d ≠ some t) : getS (putS sl d v) t = getS sl t := by
  cases d with
  | none => rfl
  | some n =>
    simp only [putS, getS_set]
    rw [if_neg]
    rintro ⟨rfl, _⟩
    exact h rfl
theorem putS_comm {sl : List SV} {d e : Option Nat} {v u : SV} (h : ∀ k, d = some k → e ≠ some k) : putS (putS sl d v) e u = putS (putS sl e u) d v := by
  cases d with
  | none => rfl
  | some k =>
    cases e with
    | none => rfl
    | some j =>
      have : k ≠ j := fun q => h k rfl (by rw [q])
      simp only [putS]
      exact List.set_comm _ _ this
section
variable {E : Env} {ops : List Oper} {next : Nat} {F : Nat → FP}
theorem Runs.swap {i j : Nat} {oi oj : Oper} {is : List Nat} {sl sl' : List SV} {H H' : HF} (hi : ops[i]? = some oi) (hj : ops[j]? = some oj) (ap : Apart ops oj oi (F j) (F i)) (h : Runs E ops next F (j :: i :: is) sl H sl' H') : Runs E ops next F (i :: j :: is) sl H sl' H' := by
  cases h with
  | cons ho hs hr =>
    rw [hj] at ho; cases ho
    cases hr with
    | cons ho2 hs2 hr2 =>
      rw [hi] at ho2; cases ho2
      rename_i Hj vj Hi vi
      obtain ⟨a1, a2⟩ := stepE_local hs
      obtain ⟨b1, b2⟩ := stepE_local hs2
      have s2 : stepE E ops oi (next + keys * i) sl Hj = some (vi, Hi, F i) := by
        rw [← hs2]
        exact stepE_congr fun t ht => (getS_putS fun e => ap.ab t e ht).symm
      have s3 := (stepE_local s2).2 H fun n hn => (a1 n fun hw => hn.elim (ap.wr n hw).1 (ap.wr n hw).2).symm
      have s4 := a2 (fun n => if n ∈ (F i).writes then Hi n else H n) fun n hn => by
        have : n ∉ (F i).writes := hn.elim (ap.rw n) fun hw => (ap.wr n hw).2
        simp only [this, if_false]
      have s5 : stepE E ops oj (next + keys * j) (putS sl oi.dst vi) (fun n => if n ∈ (F i).writes then Hi n else H n) = some (vj, Hi, F j) := by
        rw [stepE_congr (sl' := sl) fun t ht => getS_putS fun e => ap.ba t e ht]
        rw [s4]
        congr 2
        congr 1
        funext n
        by_cases w1 : n ∈ (F j).writes
        · simp only [w1, if_true]
          exact (b1 n (ap.wr n w1).2).symm
        · simp only [w1, if_false]
          by_cases w2 : n ∈ (F i).writes
          · simp only [w2, if_true]
          · simp only [w2, if_false]
            rw [b1 n w2, a1 n w1]
      refine .cons hi s3 (.cons hj s5 ?_)
      rw [putS_comm fun k h1 h2 => ap.dd k h2 h1]
      exact hr2
theorem Runs.move {i : Nat} {oi : Oper} {q : List Nat} (hi : ops[i]? = some oi) : ∀ (p : List Nat) (sl sl' : List SV) (H H' : HF), (∀ j, j ∈ p → ∃ oj, ops[j]? = some oj ∧ Apart ops oj oi (F j) (F i)) →
    Runs E ops next F (p ++ i :: q) sl H sl' H' → Runs E ops next F (i :: (p ++ q)) sl H sl' H'
  | [], sl, sl', H, H', _, h => h
  | j :: p, sl, sl', H, H', hp, h => by
    obtain ⟨oj, h1, h2⟩ := hp j List.mem_cons_self
    cases h with
    | cons ho hs hr => exact (Runs.swap hi h1 h2 (.cons ho hs (Runs.move hi p _ _ _ _ (fun k hk => hp k (List.mem_cons_of_mem _ hk)) hr)))
end
end Go.Proofs.Ytmffnlcmklapmaa.Mx

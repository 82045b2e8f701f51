/- The interpreter's operations on numbers, bools, floats and strings do what the model's do (own work). -/
import Derived.Test.YtmffnlcmklapmaaMxF
import Derived.Laws.Cover2
import Derived.Laws.Cover3
import Derived.Laws.Small
import Derived.Laws.Pointers
import Derived.Laws.Slices
namespace Go.Proofs.Ytmffnlcmklapmaa.Mx
open Go
set_option autoImplicit false
set_option linter.unusedVariables false
set_option linter.unusedSimpArgs false
variable {P : Program}
/-- A computation that leaves the world alone comes to what v stands for. -/
def Gives (P : Program) (g : Gh) (H H' : HF) (w : World) (v : SV) (s : Sem Value) : Prop := ∃ V, s.run P w = .ok V w ∧ SVR g w.heap v V ∧ H' = H
section
variable {g : Gh} {H H' : HF} {w : World} {base : Nat} {fp fp' : FP} {v : SV}
theorem ret_eval {c : CV} (h : (ret c).eval base H fp = some (v, H', fp')) : v = .v (.c c) ∧ H' = H := by
  simp only [ret, MA.eval, Option.some.injEq, Prod.mk.injEq] at h
  exact ⟨h.1.symm, h.2.1.symm⟩
theorem gives_ret {c : CV} {V : Value} {s : Sem Value} (h : (ret c).eval base H fp = some (v, H', fp')) (hs : s.run P w = .ok V w) (hv : VR g w.heap c V) : Gives P g H H' w v s := by
  obtain ⟨rfl, rfl⟩ := ret_eval h
  exact ⟨V, hs, hv, rfl⟩
theorem cond_eval {α : Type} {c : Bool} {m n : MA α} {a : α} (h : (MA.cond c m n).eval base H fp = some (a, H', fp')) : (c = true ∧ m.eval base H fp = some (a, H', fp')) ∨ (c = false ∧ n.eval base H fp = some (a, H', fp')) := by
  cases c with
  | true => exact .inl ⟨rfl, by simpa [MA.eval] using h⟩
  | false => exact .inr ⟨rfl, by simpa [MA.eval] using h⟩
theorem fail_eval {α : Type} {a : α} (h : (MA.fail : MA α).eval base H fp = some (a, H', fp')) : False := by cases h
theorem arith_does {op : BinOp} {t : Nat} {k : IntKind} {a b : Int} (h1 : op ≠ .shl) (h2 : op ≠ .shr) (h : (arithM op k a b).eval base H fp = some (v, H', fp')) :
    Gives P g H H' w v (binOp op t (.int k a) (.int k b)) := by
  cases op <;> simp only [arithM] at h
  case shl => exact absurd rfl h1
  case shr => exact absurd rfl h2
  case andNot => exact (fail_eval h).elim
  case quo =>
    rcases cond_eval h with ⟨_, h⟩ | ⟨hb, h⟩
    · exact (fail_eval h).elim
    · have hb' : ¬ b = 0 := by simpa using hb
      exact gives_ret h (by simp [binOp, Op.intDiv, hb']) rfl
  case rem =>
    rcases cond_eval h with ⟨_, h⟩ | ⟨hb, h⟩
    · exact (fail_eval h).elim
    · have hb' : ¬ b = 0 := by simpa using hb
      exact gives_ret h (by simp [binOp, Op.intDiv, hb']) rfl
  case add => exact gives_ret h (by simp [binOp, Op.intArith]) rfl
  case sub => exact gives_ret h (by simp [binOp, Op.intArith]) rfl
  case mul => exact gives_ret h (by simp [binOp, Op.intArith]) rfl
  case and => exact gives_ret h (by simp only [binOp, Op.intBits, ne_eq, not_true_eq_false, if_false]; rfl) rfl
  case or => exact gives_ret h (by simp only [binOp, Op.intBits, ne_eq, not_true_eq_false, if_false]; rfl) rfl
  case xor => exact gives_ret h (by simp only [binOp, Op.intBits, ne_eq, not_true_eq_false, if_false]; rfl) rfl
  all_goals exact gives_ret h (by simp only [binOp, Op.intCmp, ne_eq, not_true_eq_false, if_false]; rfl) rfl
theorem shift_does {op : BinOp} {t : Nat} {k k' : IntKind} {a b : Int} (hop : op = .shl ∨ op = .shr) (h : (shiftM op k a b).eval base H fp = some (v, H', fp')) :
    Gives P g H H' w v (binOp op t (.int k a) (.int k' b)) := by
  unfold shiftM at h
  rcases cond_eval h with ⟨_, h⟩ | ⟨hb, h⟩
  · exact (fail_eval h).elim
  · have hb' : ¬ b < 0 := by simpa using hb
    rcases hop with rfl | rfl
    · exact gives_ret h (by simp only [binOp, Op.shift, hb', if_false]; rfl) rfl
    · exact gives_ret h (by simp only [binOp, Op.shift, hb', if_false]; rfl) rfl
theorem boolM_does {op : BinOp} {b : Bool} {s : Sem Value} (h : (boolM op b).eval base H fp = some (v, H', fp')) (h1 : op = .eql → s.run P w = .ok (.bool b) w) (h2 : op = .neq → s.run P w = .ok (.bool (!b)) w) : Gives P g H H' w v s := by
  cases op <;> simp only [boolM] at h
  case eql => exact gives_ret h (h1 rfl) rfl
  case neq => exact gives_ret h (h2 rfl) rfl
  all_goals exact (fail_eval h).elim
theorem small_lt {x : Int} (h : small x = true) : x.natAbs < 9007199254740992 := by simpa [small] using h
/-- Structs of whole numbers and bools that may be compared. -/
def SK.Of : SK → Value → Prop
  | .int k, v => ∃ n, v = .int k n
  | .bool, v => ∃ b, v = .bool b
def eqV : List Value → List Value → Bool
  | [], [] => true
  | .int _ a :: x, .int _ b :: y => (a == b) && eqV x y
  | .bool a :: x, .bool b :: y => (a == b) && eqV x y
  | _, _ => false
structure EqOk (P : Program) (t : Nat) (ks : List SK) : Prop where
  guard : P.eqGuardType P.depth t = false
  eq : ∀ (w : World) (xs ys : List Value), All2 SK.Of ks xs → All2 SK.Of ks ys → (Op.equalIn 10000 t (.agg xs.toArray) (.agg ys.toArray)).run P w = .ok (eqV xs ys) w
def EqsOk (P : Program) (l : List (Nat × List SK)) : Prop := ∀ t ks, skget l t = some ks → EqOk P t ks
theorem EqsOk.nil (P : Program) : EqsOk P [] := fun _ _ h => by cases h
theorem EqsOk.cons {t : Nat} {ks : List SK} {l : List (Nat × List SK)} (h : EqOk P t ks) (hl : EqsOk P l) : EqsOk P ((t, ks) :: l) := fun t' i' h' => by
  by_cases e : t = t'
  · subst e; simp only [skget, beq_self] at h'; cases h'; exact h
  · simp only [skget, beq_ne e] at h'; exact hl t' i' h'
theorem eq1_spec {hp : HP} {k : SK} {x y : CV} {u v : Value} {b : Bool} (hx : VR g hp x u) (hy : VR g hp y v) (h : eq1 k x y = some b) : SK.Of k u ∧ SK.Of k v ∧ ∀ us vs, eqV (u :: us) (v :: vs) = (b && eqV us vs) := by
  unfold eq1 at h
  split at h
  · split at h
    · rename_i hk
      obtain ⟨rfl, rfl⟩ := hk
      simp only [Option.some.injEq] at h
      subst h
      obtain rfl : u = _ := hx; obtain rfl : v = _ := hy
      exact ⟨⟨_, rfl⟩, ⟨_, rfl⟩, fun _ _ => rfl⟩
    · cases h
  · simp only [Option.some.injEq] at h
    subst h
    obtain rfl : u = _ := hx; obtain rfl : v = _ := hy
    exact ⟨⟨_, rfl⟩, ⟨_, rfl⟩, fun _ _ => rfl⟩
  · cases h
theorem eqCs_spec {hp : HP} : ∀ (ks : List SK) (xs ys : List CV) (us vs : List Value) (b : Bool), All2 (VR g hp) xs us → All2 (VR g hp) ys vs → eqCs ks xs ys = some b → All2 SK.Of ks us ∧ All2 SK.Of ks vs ∧ eqV us vs = b
  | [], [], [], [], [], b, _, _, h => by simp only [eqCs, Option.some.injEq] at h; subst h; exact ⟨trivial, trivial, rfl⟩
  | k :: ks, x :: xs, y :: ys, u :: us, v :: vs, b, ⟨hx, hxs⟩, ⟨hy, hys⟩, h => by
    simp only [eqCs] at h
    cases h1 : eq1 k x y with
    | none => rw [h1] at h; cases h
    | some b1 =>
      rw [h1] at h
      simp only at h
      cases h2 : eqCs ks xs ys with
      | none => rw [h2] at h; cases h
      | some r =>
        rw [h2] at h
        simp only [Option.some.injEq] at h
        obtain ⟨a1, a2, a3⟩ := eq1_spec hx hy h1
        obtain ⟨b1', b2, b3⟩ := eqCs_spec ks xs ys us vs r hxs hys h2
        exact ⟨⟨a1, b1'⟩, ⟨a2, b2⟩, by rw [a3, b3, h]⟩
  | [], [], [], _ :: _, _, _, h, _, _ => h.elim
  | [], [], [], [], _ :: _, _, _, h, _ => h.elim
  | _, _ :: _, _, [], _, _, h, _, _ => h.elim
  | _, _, _ :: _, _, [], _, _, h, _ => h.elim
  | [], _ :: _, _, _, _, _, _, _, h => by simp [eqCs] at h
  | [], [], _ :: _, _, _, _, _, _, h => by simp [eqCs] at h
  | _ :: _, [], _, _, _, _, _, _, h => by simp [eqCs] at h
  | _ :: _, _ :: _, [], _, _, _, _, _, h => by simp [eqCs] at h
theorem eqIn_nil1 {t e : Nat} (hd : P.underlying t = some (.pointer e)) (q : Option Addr) (d : Nat) (w : World) : (Op.equalIn (d + 1) t (.pointer none) (.pointer q)).run P w = .ok q.isNone w := by
  simp [Op.equalIn, run_underlying hd]
theorem eqIn_nil2 {t e : Nat} (hd : P.underlying t = some (.pointer e)) (q : Addr) (d : Nat) (w : World) : (Op.equalIn (d + 1) t (.pointer (some q)) (.pointer none)).run P w = .ok false w := by
  simp [Op.equalIn, run_underlying hd]
theorem eqIn_nils {t e : Nat} (hd : P.underlying t = some (.slice e)) (d : Nat) (w : World) : (Op.equalIn (d + 1) t (.slice none 0 0) (.slice none 0 0)).run P w = .ok true w := by
  simp [Op.equalIn, run_underlying hd]
theorem equal_nil {t : Nat} {x y : CV} {X Y : Value} {i : TI} {b : Bool} {hp : HP} (ht : TIok P t i) (hx : VR g hp x X) (hy : VR g hp y Y) (h : nilEq i.und x y = some b) (w : World) : (Op.equal t X Y).run P w = .ok b w ∧ (∀ op z1 z2, (eqGuard op t z1 z2 X Y).run P w = .ok () w) ∧ (binOp .eql t X Y = do pure (.bool (← Op.equal t X Y))) ∧ (binOp .neq t X Y = do pure (.bool (!(← Op.equal t X Y)))) := by
  obtain ⟨d, hd, hu⟩ := und_run ht
  unfold nilEq at h
  split at h
  · -- pointers
    rename_i e he
    rw [he] at hu
    cases d <;> first | (cases hu; done) | (injection hu with hu; subst hu)
    have hg : ∀ (p q : Option Addr) op z1 z2, (eqGuard op t z1 z2 (.pointer p) (.pointer q)).run P w = .ok () w := fun p q op z1 z2 => by
      cases op <;> simp [eqGuard]
    have hb : ∀ (p q : Option Addr), (binOp .eql t (.pointer p) (.pointer q) = do pure (.bool (← Op.equal t (.pointer p) (.pointer q)))) ∧ (binOp .neq t (.pointer p) (.pointer q) = do pure (.bool (!(← Op.equal t (.pointer p) (.pointer q))))) := fun p q => ⟨rfl, rfl⟩
    have e1 : ∀ q : Option Addr, (Op.equal t (.pointer none) (.pointer q)).run P w = .ok q.isNone w := fun q => eqIn_nil1 hd q 9999 w
    have e2 : ∀ q : Addr, (Op.equal t (.pointer (some q)) (.pointer none)).run P w = .ok false w := fun q => eqIn_nil2 hd q 9999 w
    split at h <;> (try simp only [Option.some.injEq] at h) <;> first | (cases h; done) | subst h
    · obtain rfl : X = _ := hx; obtain rfl : Y = _ := hy
      exact ⟨e1 none, hg _ _, hb _ _⟩
    · obtain rfl : X = _ := hx; obtain ⟨_, c, _, _, rfl⟩ := hy
      exact ⟨e1 _, hg _ _, hb _ _⟩
    · obtain ⟨_, c, _, _, rfl⟩ := hx; obtain rfl : Y = _ := hy
      exact ⟨e2 _, hg _ _, hb _ _⟩
    · obtain rfl : X = _ := hx; obtain ⟨_, c, _, _, _, rfl⟩ := hy
      exact ⟨e1 _, hg _ _, hb _ _⟩
    · obtain ⟨_, c, _, _, _, rfl⟩ := hx; obtain rfl : Y = _ := hy
      exact ⟨e2 _, hg _ _, hb _ _⟩
  · rename_i e he
    rw [he] at hu
    cases d <;> first | (cases hu; done) | (injection hu with hu; subst hu)
    split at h <;> (try simp only [Option.some.injEq] at h) <;> first | (cases h; done) | subst h
    obtain rfl : X = _ := hx; obtain rfl : Y = _ := hy
    exact ⟨eqIn_nils hd 9999 w, fun op z1 z2 => by cases op <;> simp [eqGuard], rfl, rfl⟩
  · cases h
theorem eqGuard_one (op : BinOp) (t : Nat) (z1 z2 : Operand) (X Y : Value) (h1 : ∀ c, X ≠ .agg c) (h2 : X ≠ .nilIface) (w : World) : (eqGuard op t z1 z2 X Y).run P w = .ok () w := by
  unfold eqGuard
  cases op <;> simp only [Bool.not_true, Bool.not_false, if_true, if_false, Sem.run_bind, Sem.run_pure, Result.andThen_ok, Bool.false_eq_true] <;> first
    | rfl
    | (cases X <;> first | rfl | exact absurd rfl (h1 _) | exact absurd rfl h2)
/-- Two operands under one operator. -/
theorem bin_does {tis : List (Nat × TI)} {eqs : List (Nat × List SK)} {op : BinOp} {t : Nat} {x y : SV} {X Y : Value} (T : TIs P tis) (Eq : EqsOk P eqs) (hx : SVR g w.heap x X) (hy : SVR g w.heap y Y) (z1 z2 : Operand)
    (h : (binM tis eqs op t x y).eval base H fp = some (v, H', fp')) : Gives P g H H' w v (do eqGuard op t z1 z2 X Y; binOp op t X Y) := by
  have guard : ∀ {s : Sem Value}, (eqGuard op t z1 z2 X Y).run P w = .ok () w → Gives P g H H' w v s → Gives P g H H' w v (do eqGuard op t z1 z2 X Y; s) := fun hg ⟨V, h1, h2⟩ => ⟨V, by simp only [Sem.run_bind, hg, Result.andThen_ok, h1], h2⟩
  unfold binM at h
  split at h
  · obtain rfl : X = _ := hx; obtain rfl : Y = _ := hy
    refine guard (eqGuard_one _ _ _ _ _ _ (fun _ => by simp) (by simp) w) ?_
    split at h
    · exact shift_does (.inl rfl) h
    · exact shift_does (.inr rfl) h
    · split at h
      · rename_i hk; subst hk; exact arith_does (by assumption) (by assumption) h
      · exact (fail_eval h).elim
  · obtain rfl : X = _ := hx; obtain rfl : Y = _ := hy
    refine guard (eqGuard_one _ _ _ _ _ _ (fun _ => by simp) (by simp) w) ?_
    exact boolM_does h (fun e => by subst e; simp only [binOp, Op.stringOp]; rfl) (fun e => by subst e; simp only [binOp, Op.stringOp]; rfl)
  · rename_i x1 y1 u1 v1
    obtain ⟨a, b, rfl, ra, rb⟩ := (hx : VR g w.heap (.cint x1 y1) X)
    obtain ⟨c, d, rfl, rc, rd⟩ := (hy : VR g w.heap (.cint u1 v1) Y)
    refine guard (eqGuard_one _ _ _ _ _ _ (fun _ => by simp) (by simp) w) ?_
    split at h
    · rcases cond_eval h with ⟨hb, h⟩ | ⟨_, h⟩
      · simp only [Bool.and_eq_true] at hb
        obtain ⟨re, im, hs, q1, q2⟩ := YtmffnlcmklapmaaF.places ra rb rc rd (small_lt hb.1) (small_lt hb.2)
        exact gives_ret h (run_complex_sum (P := P) w .add (.inl rfl) t .f64 a b c d re im hs) ⟨re, im, rfl, q1, q2⟩
      · exact (fail_eval h).elim
    · rcases cond_eval h with ⟨hi, h⟩ | ⟨_, h⟩
      · rcases cond_eval h with ⟨hb, hh⟩ | ⟨_, h⟩
        · simp only [Bool.and_eq_true, isI, decide_eq_true_eq] at hb hi
          obtain ⟨rfl, rfl⟩ := hi
          have bx := small_lt hb.1
          have bY := small_lt hb.2
          obtain ⟨ac, h1, r1⟩ := YtmffnlcmklapmaaF.mul_rep ra rc (by simp)
          obtain ⟨bd, h2, r2⟩ := YtmffnlcmklapmaaF.mul_rep rb rd (by simpa using bY)
          obtain ⟨re, h3, r3⟩ := YtmffnlcmklapmaaF.sub_rep r1 r2 (by simp; omega)
          obtain ⟨ad, h4, r4⟩ := YtmffnlcmklapmaaF.mul_rep ra rd (by simpa using bx)
          obtain ⟨bc, h5, r5⟩ := YtmffnlcmklapmaaF.mul_rep rb rc (by simp)
          obtain ⟨im, h6, r6⟩ := YtmffnlcmklapmaaF.add_rep r4 r5 (by simpa using bx)
          refine gives_ret hh (run_complex_mul (P := P) w t a b c d re im ?_) ⟨re, im, rfl, by simpa using r3, by simpa using r6⟩
          unfold cMulBits
          simp only [h1, h2, h3, h4, h5, h6, Option.bind_some]
        · exact (fail_eval h).elim
      · exact (fail_eval h).elim
    · exact (fail_eval h).elim
  · rename_i xs ys
    obtain ⟨us, rfl, hxs⟩ := (hx : AVR g w.heap (.agg xs) X)
    obtain ⟨vs, rfl, hys⟩ := (hy : AVR g w.heap (.agg ys) Y)
    split at h
    · rename_i ks hks
      split at h
      · rename_i b hb
        obtain ⟨k1, k2, k3⟩ := eqCs_spec ks xs ys us vs b hxs hys hb
        have ok := Eq t ks hks
        refine guard (run_eqGuard_agg w op t z1 z2 _ _ ok.guard) ?_
        refine boolM_does h (fun e => ?_) (fun e => ?_)
        · subst e; rw [run_eql_struct, ok.eq w us vs k1 k2, Result.andThen_ok, k3]
        · subst e; rw [run_neq_struct, ok.eq w us vs k1 k2, Result.andThen_ok, k3]
      · exact (fail_eval h).elim
    · exact (fail_eval h).elim
  · rename_i x1 y1 _ _ _ 
    split at h
    · rename_i i hi
      have ht := T t i hi
      split at h
      · obtain rfl : X = _ := hx; obtain rfl : Y = _ := hy
        split at h
        · rename_i hu
          obtain ⟨d, hd, hu2⟩ := und_run ht
          rw [hu] at hu2
          cases d <;> first | (cases hu2; done) | skip
          refine guard (eqGuard_one _ _ _ _ _ _ (fun _ => by simp) (by simp) w) ?_
          exact boolM_does h (fun e => by subst e; exact run_eql_bool w t _ _ hd) (fun e => by subst e; exact run_neq_bool w t _ _ hd)
        · exact (fail_eval h).elim
      · split at h
        · rename_i b hb
          obtain ⟨e1, e2, e3, e4⟩ := equal_nil ht hx hy hb w
          refine guard (e2 _ _ _) ?_
          refine boolM_does h (fun e => ?_) (fun e => ?_)
          · subst e; rw [e3]; simp only [Sem.run_bind, e1, Result.andThen_ok, Sem.run_pure]
          · subst e; rw [e4]; simp only [Sem.run_bind, e1, Result.andThen_ok, Sem.run_pure]
        · exact (fail_eval h).elim
    · exact (fail_eval h).elim
  · exact (fail_eval h).elim
end
end Go.Proofs.Ytmffnlcmklapmaa.Mx

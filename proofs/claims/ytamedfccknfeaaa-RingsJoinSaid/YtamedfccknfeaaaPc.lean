/- A small calculus for functions that may not answer: what they answer, and that they do (own work). -/
import Derived.Test.YtamedfccknfeaaaMxV
namespace Go.Proofs.Ytamedfccknfeaaa.Pc
open Go Go.Proofs.Ytamedfccknfeaaa.Mx
set_option autoImplicit false
set_option linter.unusedVariables false
/-- o answers, and what it answers is as Q says. -/
def OK {α : Type} (o : Option α) (Q : α → Prop) : Prop := ∃ a, o = some a ∧ Q a
section
variable {α β : Type}
theorem OK.ret {a : α} {Q : α → Prop} (h : Q a) : OK (some a) Q := ⟨a, rfl, h⟩
theorem OK.iff {a : α} {Q : α → Prop} : OK (some a) Q ↔ Q a := ⟨fun ⟨_, e, h⟩ => by cases e; exact h, OK.ret⟩
theorem OK.bind {o : Option α} {f : α → Option β} {Q : β → Prop} (h : OK o fun a => OK (f a) Q) : OK (Option.bind o f) Q := by
  obtain ⟨a, rfl, b, hb, hq⟩ := h
  exact ⟨b, hb, hq⟩
theorem OK.call {o : Option α} {f : α → Option β} {a : α} {Q : β → Prop} (h : o = Option.some a) (k : OK (f a) Q) : OK (Option.bind o f) Q := by subst h; exact k
theorem OK.callR {o : Option α} {f : α → Option β} {R : α → Prop} {Q : β → Prop} (h : OK o R) (k : ∀ a, R a → OK (f a) Q) : OK (Option.bind o f) Q := by
  obtain ⟨a, rfl, hr⟩ := h
  exact k a hr
theorem OK.mono {o : Option α} {R Q : α → Prop} (h : OK o R) (k : ∀ a, R a → Q a) : OK o Q := by
  obtain ⟨a, e, hr⟩ := h
  exact ⟨a, e, k a hr⟩
theorem OK.eq {o : Option α} {a : α} (h : OK o fun b => b = a) : o = Option.some a := by
  obtain ⟨b, e, rfl⟩ := h
  exact e
theorem OK.ite {c : Prop} [Decidable c] {t e : Option α} {Q : α → Prop} (ht : c → OK t Q) (he : ¬ c → OK e Q) : OK (bif decide c then t else e) Q := by
  by_cases h : c
  · rw [decide_eq_true h]; exact ht h
  · rw [decide_eq_false h]; exact he h
theorem OK.bif {b : Bool} {t e : Option α} {Q : α → Prop} (ht : b = true → OK t Q) (he : b = false → OK e Q) : OK (bif b then t else e) Q := by
  cases b with
  | true => exact ht rfl
  | false => exact he rfl
theorem OK.guard {b : Bool} {t : Option α} {Q : α → Prop} (hb : b = true) (ht : OK t Q) : OK (bif b then t else none) Q := by rw [hb]; exact ht
theorem OK.guardN {b : Bool} {t : Option α} {Q : α → Prop} (hb : b = false) (ht : OK t Q) : OK (bif b then none else t) Q := by rw [hb]; exact ht
theorem OK.it {X B : Type} {step : (X → Option B) → X → Option B} (I : X → Prop) (m : X → Nat) {Q : B → Prop}
    (h : ∀ rec x, I x → (∀ y, I y → m y < m x → OK (rec y) Q) → OK (step rec x) Q) : ∀ {n : Nat} {x : X}, m x < n → I x → OK (it step n x) Q
  | 0, x, hn, _ => absurd hn (Nat.not_lt_zero _)
  | n + 1, x, hn, hx => by
    rw [it_succ]
    exact h _ x hx fun y hy hm => OK.it I m h (by omega) hy
end
/-- A loop whose states are told by an index: what its rounds do for each, where the index falls. -/
theorem OK.loop {ι X B : Type} {step : (X → Option B) → X → Option B} {Q : B → Prop} (st : ι → X) (I : ι → Prop) (m : ι → Nat)
    (h : ∀ rec i, I i → (∀ j, I j → m j < m i → ∀ y, y = st j → OK (rec y) Q) → OK (step rec (st i)) Q) {n : Nat} {x : X} (i : ι) (hx : x = st i) (hI : I i) (hn : m i < n) : OK (Mx.it step n x) Q := by
  subst hx
  induction n generalizing i with
  | zero => exact absurd hn (Nat.not_lt_zero _)
  | succ n ihn =>
    rw [it_succ]
    exact h _ i hI fun j hj hm y hy => by subst hy; exact ihn j hj (by omega)
theorem ite_bif {α : Type} {b : Bool} {t e : α} : (bif b then t else e) = if b = true then t else e := by cases b <;> rfl
theorem bif_dec {α : Type} {c : Prop} [Decidable c] {t e : α} : (bif decide c then t else e) = if c then t else e := by by_cases h : c <;> simp [h]
theorem wr {x : Int} (h : -9223372036854775808 ≤ x ∧ x ≤ 9223372036854775807) : IntKind.wrap .i64 x = x := by
  have e : IntKind.wrap .i64 x = if x % 18446744073709551616 ≥ 9223372036854775808 then x % 18446744073709551616 - 18446744073709551616 else x % 18446744073709551616 := by
    simp [IntKind.wrap, IntKind.signed, IntKind.bits]
  rw [e]
  split <;> omega
theorem i64_of {n : Int} (h : (Lit.int .i64 n).wf = true) : -9223372036854775808 ≤ n ∧ n ≤ 9223372036854775807 := by
  simp [Lit.wf, IntKind.min, IntKind.max, IntKind.signed, IntKind.bits] at h
  omega
theorem inR {i : Int} {n : Nat} (h : 0 ≤ i ∧ i < n) : inRange i n = true := by
  simp [inRange]; omega
theorem maxI_eq (a b : Int) : maxI a b = max a b := by unfold maxI; split <;> omega
theorem minI_eq (a b : Int) : minI a b = min a b := by unfold minI; split <;> omega
end Go.Proofs.Ytamedfccknfeaaa.Pc

/- Cells that are linked over cells that can be walked on (own work). -/
import Derived.Test.YtdbfecfcoephoaaMake
namespace Go.Proofs.Ytdbfecfcoephoaa.GenL
open Go Go.Proofs.Ytdbfecfcoephoaa.Mx Go.Proofs.Ytdbfecfcoephoaa.Pc Go.Proofs.Ytdbfecfcoephoaa.Run Go.Proofs.Ytdbfecfcoephoaa.Field Go.Proofs.Ytdbfecfcoephoaa.Gen
set_option linter.unusedVariables false
set_option linter.unusedSimpArgs false
/-- A cell that can be walked on. -/
def Wk (c : List Int) (n : Int) : Prop := walkable (Field.rd c n) = true
inductive Link (c : List Int) (m : Int) : Int → Prop
  | refl : GC m → Wk c m → Link c m m
  | step {n k : Int} : Link c m n → adj n k → GC k → Wk c k → Link c m k
theorem Link.gc {c : List Int} {m n : Int} (h : Link c m n) : GC n := by cases h <;> assumption
theorem Link.wk {c : List Int} {m n : Int} (h : Link c m n) : Wk c n := by cases h <;> assumption
theorem Link.gc0 {c : List Int} {m n : Int} (h : Link c m n) : GC m := by
  induction h with
  | refl a _ => exact a
  | step _ _ _ _ ih => exact ih
theorem Link.wk0 {c : List Int} {m n : Int} (h : Link c m n) : Wk c m := by
  induction h with
  | refl _ a => exact a
  | step _ _ _ _ ih => exact ih
theorem Link.trans {c : List Int} {m n k : Int} (h : Link c m n) (h' : Link c n k) : Link c m k := by
  induction h' with
  | refl _ _ => exact h
  | step _ a b d ih => exact .step ih a b d
theorem Link.symm {c : List Int} {m n : Int} (h : Link c m n) : Link c n m := by
  induction h with
  | refl a b => exact .refl a b
  | step p a b d ih => exact Link.trans (.step (.refl b d) (adj_sym _ _ p.gc b a) p.gc p.wk) ih
theorem Link.mono {c c' : List Int} (hw : ∀ n, GC n → Wk c n → Wk c' n) {m n : Int} (h : Link c m n) : Link c' m n := by
  induction h with
  | refl a b => exact .refl a (hw _ a b)
  | step _ a b d ih => exact .step ih a b (hw _ b d)
theorem adj_x {m : Int} (h : m % 24 ≤ 22) : adj m (m + 1) := ⟨1, by decide, by unfold nbr; simp only; rw [if_pos h]⟩
theorem adj_y {m : Int} (h : m < 360) : adj m (m + 24) := ⟨2, by decide, by unfold nbr; simp only; rw [if_pos h]⟩
/-- All cells of a room are linked. -/
theorem rect_link {c : List Int} {x y w h : Int} (hx : 0 ≤ x) (hxw : x + w ≤ 24) (hy : 0 ≤ y) (hyh : y + h ≤ 16)
    (hw : ∀ a b, x ≤ a → a < x + w → y ≤ b → b < y + h → Wk c (b * 24 + a)) :
    ∀ (k : Nat) (a b a' b' : Int), x ≤ a → a < x + w → y ≤ b → b < y + h → x ≤ a' → a' < x + w → y ≤ b' → b' < y + h → (a - a').natAbs + (b - b').natAbs = k → Link c (b * 24 + a) (b' * 24 + a') := by
  intro k
  induction k with
  | zero =>
    intro a b a' b' h1 h2 h3 h4 h5 h6 h7 h8 e
    have e1 : a' = a := by omega
    have e2 : b' = b := by omega
    subst e1
    subst e2
    exact .refl ⟨by omega, by omega⟩ (hw _ _ h1 h2 h3 h4)
  | succ k ih =>
    intro a b a' b' h1 h2 h3 h4 h5 h6 h7 h8 e
    have g : GC (b' * 24 + a') := ⟨by omega, by omega⟩
    have wk := hw a' b' h5 h6 h7 h8
    by_cases q1 : a < a'
    · have := ih a b (a' - 1) b' h1 h2 h3 h4 (by omega) (by omega) h7 h8 (by omega)
      have ad := adj_x (m := b' * 24 + (a' - 1)) (by omega)
      rw [show b' * 24 + (a' - 1) + 1 = b' * 24 + a' by omega] at ad
      exact .step this ad g wk
    by_cases q2 : a' < a
    · have := ih a b (a' + 1) b' h1 h2 h3 h4 (by omega) (by omega) h7 h8 (by omega)
      have ad := adj_x (m := b' * 24 + a') (by omega)
      rw [show b' * 24 + a' + 1 = b' * 24 + (a' + 1) by omega] at ad
      exact .step this (adj_sym _ _ g ⟨by omega, by omega⟩ ad) g wk
    by_cases q3 : b < b'
    · have := ih a b a' (b' - 1) h1 h2 h3 h4 h5 h6 (by omega) (by omega) (by omega)
      have ad := adj_y (m := (b' - 1) * 24 + a') (by omega)
      rw [show (b' - 1) * 24 + a' + 24 = b' * 24 + a' by omega] at ad
      exact .step this ad g wk
    · have := ih a b a' (b' + 1) h1 h2 h3 h4 h5 h6 (by omega) (by omega) (by omega)
      have ad := adj_y (m := b' * 24 + a') (by omega)
      rw [show b' * 24 + a' + 24 = (b' + 1) * 24 + a' by omega] at ad
      exact .step this (adj_sym _ _ g ⟨by omega, by omega⟩ ad) g wk
/-- Linked cells are reached by the field of either. -/
theorem link_field {c : List Int} {t : Int} {f : List Int} (hf : IsField (opnC c []) (IsT c [t]) f) {n : Int} (h : Link c t n) : 0 ≤ Field.rd f n := by
  induction h with
  | refl a b => exact Int.le_of_eq ((hf.zero t a).2 ⟨by simp, b⟩).symm
  | step p a b d ih => exact (hf.down _ _ p.gc b ih a ⟨d, fun x => absurd x.2 (by simp)⟩).1
/-- What a cell that is set does to the cells that can be walked on. -/
theorem wk_set {c : List Int} (hl : c.length = 384) {k v : Int} (hk : GC k) (hv : 1 ≤ v ∧ v ≤ 5) (n : Int) (hn : GC n) : Wk (c.set k.toNat v) n ↔ (n = k ∨ Wk c n) := by
  unfold Wk
  rw [rd_set c hl k n v hk hn]
  by_cases e : n = k
  · rw [if_pos e]
    exact ⟨fun _ => .inl e, fun _ => by unfold walkable; simpa using hv⟩
  · rw [if_neg e]
    exact ⟨.inr, fun h => h.resolve_left e⟩
end Go.Proofs.Ytdbfecfcoephoaa.GenL

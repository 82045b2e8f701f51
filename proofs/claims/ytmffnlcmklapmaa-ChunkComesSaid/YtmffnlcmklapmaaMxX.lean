/- Structs of whole numbers and bools that are compared (own work). -/
import Derived.Test.YtmffnlcmklapmaaMxW
import Derived.Laws.StructEq
import Derived.ChangeKeysEq
namespace Go.Proofs.Ytmffnlcmklapmaa.Mx
open Go
set_option autoImplicit false
set_option linter.unusedVariables false
set_option linter.unusedSimpArgs false
def eqKind (P : Program) (f : TypeId) : SK → Bool
  | .int k => match P.underlying f with
    | some (.int k') => decide (k' = k)
    | _ => false
  | .bool => match P.underlying f with
    | some .bool => true
    | _ => false
def eqFs (P : Program) : List SK → List Field → Nat → Bool
  | [], [], _ => true
  | k :: ks, f :: fs, off => decide (f.name ≠ "_") && Nat.beq f.offset off && P.plainKey f.type && eqKind P f.type k && eqFs P ks fs (off + 1)
  | _, _, _ => false
theorem eqKind_run {P : Program} {w : World} {d : Nat} {t : TypeId} {k : SK} {u v : Value} (h : eqKind P t k = true) (hu : SK.Of k u) (hv : SK.Of k v) : ∃ b, (Op.equalIn (d + 1) t u v).run P w = .ok b w ∧ ∀ us vs, eqV (u :: us) (v :: vs) = (b && eqV us vs) := by
  cases k with
  | int k =>
    obtain ⟨m, rfl⟩ := hu
    obtain ⟨n, rfl⟩ := hv
    simp only [eqKind] at h
    split at h
    · rename_i k' hk
      exact ⟨_, run_equalIn_int w d t k k' m n hk, fun us vs => rfl⟩
    · cases h
  | bool =>
    obtain ⟨m, rfl⟩ := hu
    obtain ⟨n, rfl⟩ := hv
    simp only [eqKind] at h
    split at h
    · rename_i hk
      exact ⟨_, run_equalIn_bool' w d t m n hk, fun us vs => rfl⟩
    · cases h
theorem eqFields_run {P : Program} {w : World} {d : Nat} {xs ys : Array Value} : ∀ (ks : List SK) (fs : List Field) (off : Nat) (us vs : List Value), eqFs P ks fs off = true → xs.toList.drop off = us → ys.toList.drop off = vs → All2 SK.Of ks us → All2 SK.Of ks vs →
    (Op.eqFields (d + 1) xs ys fs).run P w = .ok (eqV us vs) w
  | [], [], off, us, vs, _, _, _, hu, hv => by
    cases us with
    | nil =>
      cases vs with
      | nil => simp [Op.eqFields, eqV]
      | cons _ _ => exact hv.elim
    | cons _ _ => exact hu.elim
  | k :: ks, f :: fs, off, us, vs, h, h1, h2, hu, hv => by
    cases us with
    | nil => exact hu.elim
    | cons u us =>
    cases vs with
    | nil => exact hv.elim
    | cons v vs =>
    obtain ⟨hu1, hu2⟩ := hu
    obtain ⟨hv1, hv2⟩ := hv
    simp only [eqFs, Bool.and_eq_true, decide_eq_true_eq, Nat.beq_eq] at h
    obtain ⟨⟨⟨⟨c1, c2⟩, c3⟩, c4⟩, c5⟩ := h
    have g1 : xs[f.offset]? = some u := by
      rw [c2, ← Array.getElem?_toList]
      have := congrArg (fun l => l[0]?) h1
      simpa [List.getElem?_drop] using this
    have g2 : ys[f.offset]? = some v := by
      rw [c2, ← Array.getElem?_toList]
      have := congrArg (fun l => l[0]?) h2
      simpa [List.getElem?_drop] using this
    obtain ⟨b, r1, r2⟩ := eqKind_run (w := w) (d := d) c4 hu1 hv1
    have ih := eqFields_run (w := w) (d := d) (xs := xs) (ys := ys) ks fs (off + 1) us vs c5 (by rw [← List.drop_drop, h1]; rfl) (by rw [← List.drop_drop, h2]; rfl) hu2 hv2
    simp only [Op.eqFields, c1, ne_eq, not_false_eq_true, if_true, Sem.run_bind, run_part_plain w c3 g1, run_part_plain w c3 g2, Result.andThen_ok, r1, r2]
    cases b with
    | false => simp
    | true => simpa using ih
  | [], _ :: _, _, _, _, h, _, _, _, _ => by simp [eqFs] at h
  | _ :: _, [], _, _, _, h, _, _, _, _ => by simp [eqFs] at h
theorem eqok_of {P : Program} {t : Nat} {ks : List SK} (hu : P.underlying t = some (.struct (P.fieldsOf t))) (hp : P.stoodInHeld t = false) (hg : P.eqGuardType P.depth t = false) (hm : eqFs P ks (P.fieldsOf t).toList 0 = true) : EqOk P t ks :=
  ⟨hg, fun w xs ys hx hy => by
    rw [run_equalIn_agg w 9999 t _ _ hu hp]
    exact eqFields_run (d := 9998) ks _ 0 xs ys hm rfl rfl hx hy⟩
theorem eqItems_run {P : Program} {w : World} {d : Nat} {e : TypeId} {k : SK} {xs ys : Array Value} (hp : P.plainKey e = true) (hk : eqKind P e k = true) : ∀ (m off : Nat) (us vs : List Value), xs.toList.drop off = us → ys.toList.drop off = vs → All2 SK.Of (List.replicate m k) us → All2 SK.Of (List.replicate m k) vs →
    (Op.eqItems (d + 1) e 1 xs ys (List.range' off m)).run P w = .ok (eqV us vs) w
  | 0, off, us, vs, _, _, hu, hv => by
    cases us with
    | nil =>
      cases vs with
      | nil => simp [Op.eqItems, eqV]
      | cons _ _ => exact hv.elim
    | cons _ _ => exact hu.elim
  | m + 1, off, us, vs, h1, h2, hu, hv => by
    rw [List.replicate_succ] at hu hv
    cases us with
    | nil => exact hu.elim
    | cons u us =>
    cases vs with
    | nil => exact hv.elim
    | cons v vs =>
    obtain ⟨hu1, hu2⟩ := hu
    obtain ⟨hv1, hv2⟩ := hv
    have g1 : xs[off * 1]? = some u := by
      rw [Nat.mul_one, ← Array.getElem?_toList]
      have := congrArg (fun l => l[0]?) h1
      simpa [List.getElem?_drop] using this
    have g2 : ys[off * 1]? = some v := by
      rw [Nat.mul_one, ← Array.getElem?_toList]
      have := congrArg (fun l => l[0]?) h2
      simpa [List.getElem?_drop] using this
    obtain ⟨b, r1, r2⟩ := eqKind_run (w := w) (d := d) hk hu1 hv1
    have ih := eqItems_run (w := w) (d := d) (xs := xs) (ys := ys) hp hk m (off + 1) us vs (by rw [← List.drop_drop, h1]; rfl) (by rw [← List.drop_drop, h2]; rfl) hu2 hv2
    rw [List.range'_succ]
    simp only [Op.eqItems, Sem.run_bind, run_part_plain w hp g1, run_part_plain w hp g2, Result.andThen_ok, r1, r2]
    cases b with
    | false => simp
    | true => simpa using ih
theorem eqok_arr {P : Program} {t n e : Nat} {k : SK} (hu : P.underlying t = some (.array n e)) (hi : (P.info? e).isSome = true) (hc : P.cellsOf e = 1) (hp : P.plainKey e = true) (hg : P.eqGuardType P.depth t = false) (hk : eqKind P e k = true) : EqOk P t (List.replicate n k) :=
  ⟨hg, fun w xs ys hx hy => by
    obtain ⟨i, hi⟩ := Option.isSome_iff_exists.1 hi
    rw [run_equalIn_array w 9999 xs.toArray ys.toArray hu hi, hc, List.range_eq_range']
    exact eqItems_run (d := 9998) hp hk n 0 xs ys rfl rfl hx hy⟩
end Go.Proofs.Ytmffnlcmklapmaa.Mx

/- The document's floors: the dice, a cell that is dug, a cell that is picked (own work). -/
import Derived.Test.YtdbfecfcoephoaaRField
namespace Go.Proofs.Ytdbfecfcoephoaa.Gen
open Go Go.Proofs.Ytdbfecfcoephoaa.Mx Go.Proofs.Ytdbfecfcoephoaa.Pc Go.Proofs.Ytdbfecfcoephoaa.Run Go.Proofs.Ytdbfecfcoephoaa.Field
set_option linter.unusedVariables false
set_option linter.unusedSimpArgs false
theorem u64_range (n : Int) : 0 ≤ IntKind.u64.wrap n ∧ IntKind.u64.wrap n < 18446744073709551616 := by
  have : IntKind.u64.wrap n = n % 18446744073709551616 := by simp [IntKind.wrap, IntKind.bits, IntKind.signed]
  omega
theorem u64_of {n : Int} (h : 0 ≤ n ∧ n < 18446744073709551616) : IntKind.u64.wrap n = n := by
  have : IntKind.u64.wrap n = n % 18446744073709551616 := by simp [IntKind.wrap, IntKind.bits, IntKind.signed]
  omega
theorem m_ok (a : Int) : ∃ v, f67 a = some (v, ()) ∧ 0 ≤ v ∧ v < 18446744073709551616 := ⟨_, rfl, u64_range _⟩
theorem mix_ok (s : Int) (l : List Int) (hl : l.length ≤ 1000000) : OK (f65 s l) fun y => 0 ≤ y.1 ∧ y.1 < 18446744073709551616 := by
  unfold f65 f65.L1
  obtain ⟨v, e, hv⟩ := m_ok (IntKind.u64.wrap (IntKind.u64.wrap s + 11400714819323198485))
  rw [e]
  simp only [Option.bind_some]
  refine OK.loop (fun j : Nat × Int => (l, j.2, (j.1 : Int), ())) (fun j => j.1 ≤ l.length ∧ 0 ≤ j.2 ∧ j.2 < 18446744073709551616) (fun j => l.length - j.1) (fun rec j hj ih => ?_) (0, v) rfl ⟨Nat.zero_le _, hv⟩ (by dsimp only; omega)
  obtain ⟨i, x⟩ := j
  obtain ⟨hi, hx⟩ := hj
  dsimp only at hi hx ih ⊢
  by_cases c : i < l.length
  · have c' : (i : Int) < (l.length : Int) := by omega
    have wj : IntKind.wrap .i64 ((i : Int) + 1) = ((i + 1 : Nat) : Int) := by rw [wr (by omega)]; omega
    rw [bif_dec, if_pos c', inR (by omega), cond_true, wj]
    generalize IntKind.u64.wrap (_ + 11400714819323198485) = q
    obtain ⟨v, e, hv⟩ := m_ok q
    rw [e]
    exact ih (i + 1, v) ⟨by dsimp only; omega, hv⟩ (by dsimp only; omega) _ rfl
  · have c' : ¬ (i : Int) < (l.length : Int) := by omega
    rw [bif_dec, if_neg c']
    exact OK.ret hx
theorem die_ok (n s : Int) (l : List Int) (hl : l.length ≤ 1000000) (h1 : 1 ≤ n) (h2 : n ≤ 1000000000) : OK (f59 n s l) fun y => 0 ≤ y.1 ∧ y.1 < n := by
  unfold f59
  have wn : IntKind.u64.wrap n = n := u64_of (by omega)
  rw [bif_dec, if_neg (by omega)]
  refine OK.callR (mix_ok s l hl) fun y hy => ?_
  rw [wn, bif_dec, if_neg (by omega)]
  have := Int.tmod_lt_of_pos y.1 (show 0 < n by omega)
  have := Int.tmod_nonneg n hy.1
  refine OK.ret ?_
  dsimp only
  rw [wr (by omega)]
  omega
theorem d_ok (s fl a b n : Int) (h1 : 1 ≤ n) (h2 : n ≤ 1000000000) : OK (f39 s fl a b n) fun y => 0 ≤ y.1 ∧ y.1 < n := by
  unfold f39
  exact OK.callR (die_ok n s [fl, a, b] (by simp) h1 h2) fun y hy => OK.ret hy
/-- A floor's cells while it is dug. -/
structure F (c : List Int) : Prop where
  len : c.length = 384
  val : ∀ i, 0 ≤ c.getD i 0 ∧ c.getD i 0 < 7
theorem F.cb {c : List Int} (h : F c) : CB c := fun i => by have := h.val i; omega
theorem F.set {c : List Int} (h : F c) (i : Nat) (v : Int) (hv : 0 ≤ v ∧ v < 7) : F (c.set i v) := ⟨by rw [List.length_set]; exact h.len, fun j => by
  rw [getD_set]
  split
  · exact hv
  · exact h.val j⟩
theorem dig_ok (x y : Int) (door : Bool) (c : List Int) (hc : F c) (hx : 0 ≤ x ∧ x < 24) (hy : 0 ≤ y ∧ y < 16) : OK (f40 x y door c) fun r => F r.2.1 := by
  unfold f40
  have e : IntKind.wrap .i64 (IntKind.wrap .i64 (y * 24) + x) = y * 24 + x := by rw [wr (x := y * 24) (by omega), wr (by omega)]
  have hl := hc.len
  have h1 := hc.set (y * 24 + x).toNat 1 (by decide)
  have h2 := h1.set (y * 24 + x).toNat 2 (by decide)
  rw [e, inR (by omega), cond_true, cond_true, inR (n := (c.set (y * 24 + x).toNat 1).length) (by rw [List.length_set]; omega), cond_true]
  cases (c.getD (y * 24 + x).toNat 0 != 0) with
  | true => exact OK.ret hc
  | false =>
    cases door with
    | true => exact OK.ret h1
    | false => exact OK.ret h2
theorem toward_eq (a b : Int) (ha : -1000 ≤ a ∧ a ≤ 1000) : f41 a b = some (if a < b then a + 1 else a - 1, ()) := by
  unfold f41
  rw [bif_dec]
  by_cases h : a < b
  · rw [if_pos h, if_pos h, wr (by omega)]
  · rw [if_neg h, if_neg h, wr (by omega)]
theorem pick_ok (c f : List Int) (far : Int) (used : List Bool) (s fl a : Int) (hc : c.length = 384) (hf : f.length = 384) (hu : used.length = 384) : OK (f43 c f far used s fl a) fun y => y.1 = -1 ∨ GC y.1 := by
  unfold f43 f43.L1
  refine OK.loop (fun j : Nat × List Int => (c, f, far, used, s, fl, a, (j.1 : Int), j.2, ())) (fun j => j.1 ≤ 384 ∧ j.2.length ≤ j.1 ∧ ∀ n ∈ j.2, GC n) (fun j => 384 - j.1) (fun rec j hj ih => ?_) (0, []) rfl ⟨Nat.zero_le _, Nat.zero_le _, fun n hn => (by cases hn)⟩ (by dsimp only; decide)
  obtain ⟨i, l⟩ := j
  obtain ⟨hi, hl, hG⟩ := hj
  dsimp only at hi hl hG ih ⊢
  by_cases c4 : i < 384
  · have c4' : (i : Int) < 384 := by omega
    have wj : IntKind.wrap .i64 ((i : Int) + 1) = ((i + 1 : Nat) : Int) := by rw [wr (by omega)]; omega
    rw [bif_dec, if_pos c4', inR (n := c.length) (by omega), inR (n := f.length) (by omega), inR (n := used.length) (by omega), cond_true, cond_true, cond_true, wj]
    have skip := ih (i + 1, l) ⟨by dsimp only; omega, by dsimp only; omega, hG⟩ (by dsimp only; omega) _ rfl
    dsimp only at skip
    refine OK.bif (fun _ => ?_) (fun _ => skip)
    refine OK.bif (fun _ => ?_) (fun _ => skip)
    refine OK.bif (fun _ => ?_) (fun _ => skip)
    rw [decide_eq_true (by simp [limit]; omega), cond_true]
    refine ih (i + 1, l ++ [(i : Int)]) ⟨by dsimp only; omega, by dsimp only; simp; omega, fun n hn => ?_⟩ (by dsimp only; omega) _ rfl
    rcases List.mem_append.1 hn with x | x
    · exact hG n x
    · rw [List.mem_singleton.1 x]; exact ⟨by omega, by omega⟩
  · have c4' : ¬ (i : Int) < 384 := by omega
    rw [bif_dec, if_neg c4']
    by_cases h0 : l.length = 0
    · have q : (((l.length : Nat) : Int) == 0) = true := by rw [h0]; rfl
      rw [q, cond_true]
      exact OK.ret (.inl rfl)
    · have q : (((l.length : Nat) : Int) == 0) = false := by simp; intro e; exact h0 (by rw [e]; rfl)
      rw [q, cond_false]
      refine OK.callR (d_ok s fl a 0 l.length (by omega) (by omega)) fun y hy => ?_
      rw [inR (by omega), cond_true]
      refine OK.ret (.inr ?_)
      dsimp only
      have : l.getD y.1.toNat 0 ∈ l := by
        rw [List.getD_eq_getElem?_getD, List.getElem?_eq_getElem (by omega)]
        exact List.getElem_mem _
      exact hG _ this
end Go.Proofs.Ytdbfecfcoephoaa.Gen

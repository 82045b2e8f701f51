/- The law TableOpen, in plain words (own work). -/
import Derived.Test.YtamedfccknfeaaaTable
namespace Go.Proofs.Ytamedfccknfeaaa.Pure
open Go Go.Proofs.Ytamedfccknfeaaa.Mx Go.Proofs.Ytamedfccknfeaaa.Pc Go.Proofs.Ytamedfccknfeaaa.Run Go.Proofs.Ytamedfccknfeaaa.Table
set_option linter.unusedVariables false
/-- The host's span and those of the first k seats. -/
def taken : Nat → List S
  | 0 => [(0, 1, 0, 0)]
  | k + 1 => taken k ++ [((k : Int) + 1, 10 * ((k : Int) + 1), 0, 0)]
theorem taken_eq : taken 0 = [(0, 1, 0, 0)] ∧ taken 1 = [(0, 1, 0, 0), (1, 10, 0, 0)] ∧ taken 2 = [(0, 1, 0, 0), (1, 10, 0, 0), (2, 20, 0, 0)] ∧ taken 3 = [(0, 1, 0, 0), (1, 10, 0, 0), (2, 20, 0, 0), (3, 30, 0, 0)] := ⟨rfl, rfl, rfl, rfl⟩
theorem open_taken (k : Nat) (h : k ≤ 3) : f29 (taken k) 100 = some (if k = 3 then -1 else (k : Int) + 1, ()) := by
  match k, h with
  | 0, _ => rw [open_eq _ _ (by decide)]; rfl
  | 1, _ => rw [open_eq _ _ (by decide)]; rfl
  | 2, _ => rw [open_eq _ _ (by decide)]; rfl
  | 3, _ => rw [open_eq _ _ (by decide)]; rfl
theorem add_taken (k : Nat) (h : k < 3) : f28 (taken k) 2 0 ((k : Int) + 1) (10 * ((k : Int) + 1)) 0 = some (0, taken (k + 1), ()) := by
  match k, h with
  | 0, _ => rw [add_seat _ _ _ _ _ (by decide) (by decide) (by decide) (by decide) (.inl (by decide))]; rfl
  | 1, _ => rw [add_seat _ _ _ _ _ (by decide) (by decide) (by decide) (by decide) (.inl (by decide))]; rfl
  | 2, _ => rw [add_seat _ _ _ _ _ (by decide) (by decide) (by decide) (by decide) (.inl (by decide))]; rfl
/-- The seat g is given up at 60. -/
def given (n g : Nat) : List S := (taken n).set g ((g : Int), 10 * (g : Int), 60, 50)
theorem add_given (n g : Nat) (h : n ≤ 3) (h1 : 1 ≤ g) (h2 : g ≤ n) : f28 (taken n) 3 0 (g : Int) 60 50 = some (0, given n g, ()) := by
  have key : n = 1 ∧ g = 1 ∨ n = 2 ∧ g = 1 ∨ n = 2 ∧ g = 2 ∨ n = 3 ∧ g = 1 ∨ n = 3 ∧ g = 2 ∨ n = 3 ∧ g = 3 := by omega
  rcases key with ⟨rfl, rfl⟩ | ⟨rfl, rfl⟩ | ⟨rfl, rfl⟩ | ⟨rfl, rfl⟩ | ⟨rfl, rfl⟩ | ⟨rfl, rfl⟩
  · rw [add_retire _ _ _ _ _ 1 (by decide) (by decide) (by decide) (by decide) (by decide) (by decide) (by decide) (by decide) (by decide)]; rfl
  · rw [add_retire _ _ _ _ _ 1 (by decide) (by decide) (by decide) (by decide) (by decide) (by decide) (by decide) (by decide) (by decide)]; rfl
  · rw [add_retire _ _ _ _ _ 2 (by decide) (by decide) (by decide) (by decide) (by decide) (by decide) (by decide) (by decide) (by decide)]; rfl
  · rw [add_retire _ _ _ _ _ 1 (by decide) (by decide) (by decide) (by decide) (by decide) (by decide) (by decide) (by decide) (by decide)]; rfl
  · rw [add_retire _ _ _ _ _ 2 (by decide) (by decide) (by decide) (by decide) (by decide) (by decide) (by decide) (by decide) (by decide)]; rfl
  · rw [add_retire _ _ _ _ _ 3 (by decide) (by decide) (by decide) (by decide) (by decide) (by decide) (by decide) (by decide) (by decide)]; rfl
theorem open_given (n g : Nat) (f : Int) (h : n ≤ 3) (h1 : 1 ≤ g) (h2 : g ≤ n) (f0 : 0 ≤ f) (f1 : f < 100) : f29 (given n g) f = some (if f ≥ 60 then (g : Int) else if n = 3 then -1 else (n : Int) + 1, ()) := by
  have key : n = 1 ∧ g = 1 ∨ n = 2 ∧ g = 1 ∨ n = 2 ∧ g = 2 ∨ n = 3 ∧ g = 1 ∨ n = 3 ∧ g = 2 ∨ n = 3 ∧ g = 3 := by omega
  rw [open_eq _ _ (by simp only [given, List.length_set]; rcases key with ⟨rfl, rfl⟩ | ⟨rfl, rfl⟩ | ⟨rfl, rfl⟩ | ⟨rfl, rfl⟩ | ⟨rfl, rfl⟩ | ⟨rfl, rfl⟩ <;> decide)]
  rcases key with ⟨rfl, rfl⟩ | ⟨rfl, rfl⟩ | ⟨rfl, rfl⟩ | ⟨rfl, rfl⟩ | ⟨rfl, rfl⟩ | ⟨rfl, rfl⟩
  all_goals (by_cases c : f ≥ 60 <;> simp [given, taken, opens, bk, bkR, ofSeat, s0, c] <;> omega)
theorem TableOpen (a0 : Int) (w0 : (Lit.int .i64 a0).wf = true) (a1 : Int) (w1 : (Lit.int .i64 a1).wf = true) (a2 : Int) (w2 : (Lit.int .i64 a2).wf = true) : f8 a0 a1 a2 = some (true, ()) := by
  unfold f8
  have b := within_b a0 4 (by decide)
  rw [known_eq, within_eq _ _ (by decide) (by decide), add_seat [] 0 1 0 0 (by decide) (by decide) (by decide) (by decide) (.inl (by decide))]
  generalize within a0 4 = n at *
  obtain ⟨n, rfl⟩ := Int.eq_ofNat_of_zero_le b.2.2.1
  have hn : n ≤ 3 := by omega
  simp only [Option.bind_some, Bool.not_true, cond_false, bne_self_eq_false, bif_dec, List.nil_append]
  refine OK.eq ?_
  refine OK.loop (fun k : Nat => ((n : Int), a1, a2, (k : Int) + 1, taken k, ())) (fun k => k ≤ n) (fun k => n - k) (fun rec k hk ih => ?_) 0 rfl (Nat.zero_le _) (by omega)
  simp only
  by_cases c : (k : Int) + 1 ≤ n
  · rw [if_pos c, open_taken k (by omega), if_neg (by omega), wr (by omega), add_taken k (by omega), wr (by omega)]
    simp only [Option.bind_some, bne_self_eq_false, cond_false]
    exact ih (k + 1) (by omega) (by omega) _ (by simp)
  · obtain rfl : k = n := by omega
    rw [if_neg c]
    refine OK.callR (R := fun y => y = Sum.inl ((k : Int), a1, a2, (if k = 3 then -1 else (k : Int) + 1), taken k, ())) ?_ ?_
    · by_cases h3 : k = 3
      · subst h3; exact OK.ret rfl
      · have q : ((k : Int) == 3) = false := by simp; omega
        rw [q, if_neg h3, wr (by omega)]
        exact OK.ret rfl
    · rintro _ rfl
      simp only [Sum.elim_inl]
      rw [open_taken k hn]
      simp only [Option.bind_some, bne_self_eq_false, cond_false]
      by_cases h0 : k = 0
      · subst h0; exact OK.ret rfl
      have q : ((k : Int) == 0) = false := by simp; omega
      have b1 := within_b a1 k (by omega)
      have b2 := within_b a2 100 (by decide)
      rw [q, cond_false, within_eq _ _ (by omega) (by omega), within_eq _ _ (by decide) (by decide)]
      simp only [Option.bind_some]
      rw [wr (by omega)]
      generalize within a1 k = g at *
      obtain ⟨g, rfl⟩ := Int.eq_ofNat_of_zero_le b1.2.2.1
      rw [show 1 + (g : Int) = ((g + 1 : Nat) : Int) by omega, add_given k (g + 1) hn (by omega) (by omega)]
      simp only [Option.bind_some]
      generalize within a2 100 = f at *
      have ho := open_given k (g + 1) f hn (by omega) (by omega) (by omega) (by omega)
      by_cases c60 : f ≥ 60
      · rw [if_pos c60] at ho ⊢
        simp only [Option.bind_some, Sum.elim_inl, beq_self_eq_true, cond_true]
        rw [ho]
        simp [OK.iff]
      · rw [if_neg c60] at ho ⊢
        simp only [Option.bind_some, Sum.elim_inl, beq_self_eq_true, cond_true]
        rw [ho]
        simp [OK.iff]
end Go.Proofs.Ytamedfccknfeaaa.Pure

/- The law ChunkSplits, in plain words (own work). -/
import Derived.Test.YtfcfafacjeknaaaChunkLaw
namespace Go.Proofs.Ytfcfafacjeknaaa.Pure
open Go Go.Proofs.Ytfcfafacjeknaaa.Mx Go.Proofs.Ytfcfafacjeknaaa.Pc Go.Proofs.Ytfcfafacjeknaaa.Run Go.Proofs.Ytfcfafacjeknaaa.Chunk
set_option linter.unusedVariables false
/-- The first k pieces. -/
def cut (l : List Int) (k : Nat) : List (List Int) := (List.range k).map fun i => (l.drop (64 * i)).take 64
theorem cut_succ (l : List Int) (k : Nat) : cut l (k + 1) = cut l k ++ [(l.drop (64 * k)).take 64] := by
  unfold cut
  rw [List.range_succ, List.map_append]
  rfl
theorem cut_len (l : List Int) (k : Nat) : (cut l k).length = k := by simp [cut]
theorem cut_flat (l : List Int) : ∀ k, (cut l k).flatten = l.take (64 * k)
  | 0 => by simp [cut]
  | k + 1 => by
    rw [cut_succ, List.flatten_append, cut_flat l k, Nat.mul_succ, List.take_add]
    simp
theorem split_eq (l : List Int) (hl : l.length ≤ 1024) : ∃ p : Nat, f23_1 l = some (0, cut l (p + 1), ()) ∧ (p = 0 ∨ 64 * p < l.length) ∧ l.length ≤ 64 * (p + 1) := by
  have main : OK (f23_1 l) fun y => ∃ p : Nat, y = (0, cut l (p + 1), ()) ∧ (p = 0 ∨ 64 * p < l.length) ∧ l.length ≤ 64 * (p + 1) := by
    unfold f23_1 f23_1.L1
    simp only [bif_cl]
    rw [if_neg (by omega)]
    refine OK.loop (fun i : Nat => (l.drop (64 * i), cut l i, ())) (fun i => i = 0 ∨ 64 * i < l.length) (fun i => 20 - i) (fun rec i hi ih => ?_) 0 rfl (.inl rfl) (by decide)
    have hd : (l.drop (64 * i)).length = l.length - 64 * i := List.length_drop
    have cl := cut_len l i
    simp only
    by_cases c : ((l.drop (64 * i)).length : Int) > 64
    · have e1 : f47 (List.drop 0 (List.take 64 (l.drop (64 * i)))) = some ((l.drop (64 * i)).take 64, ()) := by
        unfold f47 cloneF
        rw [decide_eq_true (by simp [limit]; omega)]
        rfl
      rw [if_pos c, if_pos (by omega), e1]
      simp only [Option.bind_some]
      rw [if_pos (by simp [limit]; omega), if_pos (by omega), List.take_length]
      refine ih (i + 1) (.inr (by omega)) (by omega) _ ?_
      rw [cut_succ, List.drop_drop, Nat.mul_succ]
    · have e1 : f47 (l.drop (64 * i)) = some (l.drop (64 * i), ()) := by
        unfold f47 cloneF
        rw [decide_eq_true (by simp [limit]; omega)]
        rfl
      rw [if_neg c, e1]
      simp only [Option.bind_some]
      rw [if_pos (by simp [limit]; omega)]
      refine OK.ret ⟨i, ?_, hi, by omega⟩
      rw [cut_succ, List.take_of_length_le (by omega)]
  obtain ⟨y, e, p, rfl, h1, h2⟩ := main
  exact ⟨p, e, h1, h2⟩
theorem rsplit_eq (l : List Int) (hl : l.length ≤ 1024) : ∃ p : Nat, f24 l = some (0, cut l (p + 1), ()) ∧ (p = 0 ∨ 64 * p < l.length) ∧ l.length ≤ 64 * (p + 1) := by
  unfold f24
  simp only [bif_cl]
  rw [if_neg (by omega)]
  by_cases c0 : l.length = 0
  · have : l = [] := List.length_eq_zero_iff.1 c0
    subst this
    exact ⟨0, rfl, .inl rfl, by decide⟩
  · have q : ((l.length : Int) == 0) = false := by simp; exact fun h => c0 (by rw [h]; rfl)
    rw [q, cond_false]
    have main : OK (f24.L1 (l, 0, [], ())) fun y => ∃ p : Nat, y = (0, cut l (p + 1), ()) ∧ (p = 0 ∨ 64 * p < l.length) ∧ l.length ≤ 64 * (p + 1) := by
      unfold f24.L1
      refine OK.loop (fun i : Nat => (l, 64 * (i : Int), cut l i, ())) (fun i => i = 0 ∨ 64 * (i - 1) < l.length) (fun i => 20 - i) (fun rec i hi ih => ?_) 0 rfl (.inl rfl) (by decide)
      have cl := cut_len l i
      have w1 : IntKind.wrap .i64 (64 * (i : Int) + 64) = 64 * (i : Int) + 64 := wr (by omega)
      simp only [bif_cl, w1, minI_eq]
      by_cases c : 64 * (i : Int) < l.length
      · have e1 : List.drop (Int.toNat (64 * (i : Int))) (List.take (Int.toNat (min (64 * (i : Int) + 64) (l.length : Int))) l) = (l.drop (64 * i)).take 64 := by
          rw [show Int.toNat (64 * (i : Int)) = 64 * i by omega, List.take_drop]
          rcases Nat.le_total (64 * i + 64) l.length with h | h
          · rw [show Int.toNat (min (64 * (i : Int) + 64) (l.length : Int)) = 64 * i + 64 by omega]
          · rw [show Int.toNat (min (64 * (i : Int) + 64) (l.length : Int)) = l.length by omega, List.take_length, List.take_of_length_le (by omega)]
        rw [if_pos c, if_pos (by omega), e1, if_pos (by simp [limit]; omega), if_pos (by simp [limit]; omega)]
        refine ih (i + 1) (.inr (by omega)) (by omega) _ ?_
        rw [cut_succ]
        simp
        omega
      · rw [if_neg c]
        obtain ⟨p, rfl⟩ : ∃ p, i = p + 1 := ⟨i - 1, by omega⟩
        exact OK.ret ⟨p, rfl, by omega, by omega⟩
    obtain ⟨y, e, p, rfl, h1, h2⟩ := main
    exact ⟨p, e, h1, h2⟩
theorem ChunkSplits (a0 : List Int) (w0 : Ty.good (.row (.int .u8)) a0) (z0 : a0.length * 1 ≤ 140737488351232) : f5 a0 = some (true, ()) := by
  unfold f5
  rw [known_eq]
  simp only [Option.bind_some, Bool.not_true, cond_false, bif_cl]
  by_cases c0 : (a0.length : Int) > 3000
  · rw [if_pos c0]
  rw [if_neg c0, if_pos (by simp [limit]; omega)]
  by_cases c1 : a0.length ≤ 1024
  · obtain ⟨p, e1, p1, p2⟩ := split_eq a0 c1
    obtain ⟨q, e2, q1, q2⟩ := rsplit_eq a0 c1
    obtain rfl : p = q := by omega
    rw [e1, e2]
    simp only [Option.bind_some, bne_self_eq_false, cond_false]
    refine OK.eq ?_
    unfold f5.L1
    refine OK.loop (fun i : Nat => (a0, 0, (i : Int), cut a0 (p + 1), cut a0 (p + 1), ((cut a0 (p + 1)).take i).flatten, ())) (fun i => i ≤ p + 1) (fun i => p + 1 - i) (fun rec i hi ih => ?_) 0 rfl (Nat.zero_le _) (by omega)
    have hl := cut_len a0 (p + 1)
    have w3 : IntKind.wrap .i64 ((i : Int) + 1) = (i : Int) + 1 := wr (by omega)
    simp only [bif_cl, hl, w3]
    by_cases c2 : (i : Int) < ((p + 1 : Nat) : Int)
    · have hi2 : i < (cut a0 (p + 1)).length := by omega
      have hf : ((cut a0 (p + 1)).take (i + 1)).flatten = ((cut a0 (p + 1)).take i).flatten ++ (cut a0 (p + 1)).getD i [] := by
        rw [List.take_succ_eq_append_getElem hi2, List.flatten_append]
        simp [List.getD_eq_getElem?_getD, hi2]
      have hsz : (((cut a0 (p + 1)).take (i + 1)).flatten).length ≤ a0.length := by
        have : ((cut a0 (p + 1)).take (i + 1)).flatten = a0.take (64 * (i + 1)) := by
          have h2 : (cut a0 (p + 1)).take (i + 1) = cut a0 (i + 1) := by
            unfold cut
            rw [← List.map_take, List.take_range, Nat.min_eq_left (by omega)]
          rw [h2, cut_flat]
        rw [this, List.length_take]
        omega
      rw [hf, List.length_append] at hsz
      rw [if_pos c2, inR (by omega), cond_true, cond_true]
      simp only [beq_self_eq_true, Bool.not_true, cond_false, cond_true, Int.toNat_natCast]
      rw [if_pos (by simp only [limit]; omega)]
      exact ih (i + 1) (by omega) (by omega) _ (by rw [hf]; simp)
    · obtain rfl : i = p + 1 := by omega
      rw [if_neg c2]
      simp only [bne_self_eq_false, cond_false]
      refine OK.ret ?_
      rw [List.take_of_length_le (by omega), cut_flat, List.take_of_length_le (by omega)]
      simp
  · have e1 : f23_1 a0 = some (4, [], ()) := by
      unfold f23_1
      rw [bif_cl, if_pos (by omega)]
    have e2 : f24 a0 = some (4, [], ()) := by
      unfold f24
      rw [bif_cl, if_pos (by omega)]
    rw [e1, e2]
    simp only [Option.bind_some, bne_self_eq_false, cond_false]
    unfold f5.L1
    rw [it_pos (by decide)]
    rfl
end Go.Proofs.Ytfcfafacjeknaaa.Pure

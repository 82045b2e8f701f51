/- The law RemoteStages, in plain words (own work). -/
import Derived.Test.YtfcfafacjeknaaaPureRemoteGrows
namespace Go.Proofs.Ytfcfafacjeknaaa.Pure
open Go Go.Proofs.Ytfcfafacjeknaaa.Mx Go.Proofs.Ytfcfafacjeknaaa.Pc Go.Proofs.Ytfcfafacjeknaaa.Run Go.Proofs.Ytfcfafacjeknaaa.Chunk Go.Proofs.Ytfcfafacjeknaaa.Remote
set_option linter.unusedVariables false
set_option linter.unusedSimpArgs false
theorem sit_no (n tr ba : Int) (wa : Bool) (st se re li s0 s1 s2 s3 nx : Int) (he : List Bool) (h : ¬ (1 ≤ n ∧ n < 4 ∧ st = 3)) :
    f41_1 n tr ba wa st se re li s0 s1 s2 s3 nx he = some (16, tr, ba, wa, st, se, re, li, s0, s1, s2, s3, nx, he, ()) := by
  unfold f41_1
  simp only [bif_dec]
  by_cases c1 : n < 1
  · rw [if_pos c1]
  by_cases c2 : n ≥ 4
  · rw [if_neg c1, if_pos c2]
  have q : (st != 3) = true := by
    simp only [bne_iff_ne, ne_eq]; intro e; exact h ⟨by omega, by omega, e⟩
  rw [if_neg c1, if_neg c2, q, cond_true]
theorem sit_yes (n tr ba : Int) (wa : Bool) (se re li s0 s1 s2 s3 nx : Int) (he : List Bool) (h1 : 1 ≤ n) (h2 : n < 4) :
    f41_1 n tr ba wa 3 se re li s0 s1 s2 s3 nx he = some (0, tr, ba, wa, 5, n, re, li, s0, s1, s2, s3, nx, he, ()) := by
  unfold f41_1
  simp only [bif_dec]
  rw [if_neg (by omega), if_neg (by omega)]
  rfl
theorem near_no (n tr ba : Int) (wa : Bool) (st se re li s0 s1 s2 s3 nx : Int) (he : List Bool) (h : st ≠ 3) :
    f42_1 n tr ba wa st se re li s0 s1 s2 s3 nx he = some (false, tr, ba, wa, st, se, re, li, s0, s1, s2, s3, nx, he, ()) := by
  unfold f42_1
  have q : (st == 3) = false := by simpa using h
  rw [q, cond_false]
theorem near_yes (n tr ba : Int) (wa : Bool) (se re li s0 s1 s2 s3 nx : Int) (he : List Bool) (h1 : 0 ≤ n) (h2 : n ≤ 1000) (h3 : 0 ≤ li) (h4 : li ≤ 1000) :
    f42_1 n tr ba wa 3 se re li s0 s1 s2 s3 nx he = some (decide (n - 6 ≤ li), tr, ba, wa, 3, se, re, li, s0, s1, s2, s3, nx, he, ()) := by
  unfold f42_1
  simp only [beq_self_eq_true, cond_true, bif_dec]
  by_cases c : n ≤ li
  · have c' : n - 6 ≤ li := by omega
    rw [if_pos c, decide_eq_true c']
  · rw [if_neg c, wr (by omega)]
    have e : (n - li ≤ 6) = (n - 6 ≤ li) := by apply propext; omega
    simp only [e]
theorem seat_eq (tr ba : Int) (wa : Bool) (st se re li s0 s1 s2 s3 nx : Int) (he : List Bool) :
    f43_1 tr ba wa st se re li s0 s1 s2 s3 nx he = some (se, tr, ba, wa, st, se, re, li, s0, s1, s2, s3, nx, he, ()) := rfl
theorem rise_no (tr ba : Int) (wa : Bool) (st se re li s0 s1 s2 s3 nx : Int) (he : List Bool) (h : st ≠ 5) :
    f44_1 tr ba wa st se re li s0 s1 s2 s3 nx he = some (tr, ba, wa, st, se, re, li, s0, s1, s2, s3, nx, he, ()) := by
  unfold f44_1
  have q : (st == 5) = false := by simpa using h
  rw [q, cond_false]
theorem rise_yes (tr ba : Int) (wa : Bool) (se re li s0 s1 s2 s3 nx : Int) (he : List Bool) :
    f44_1 tr ba wa 5 se re li s0 s1 s2 s3 nx he = some (tr, ba, wa, 4, -1, re, li, s0, s1, s2, s3, nx, he, ()) := rfl
theorem chunks_no (tr ba : Int) (wa : Bool) (st se re li s0 s1 s2 s3 : Int) (nx : Int) (he : List Bool) (h : st ≠ 2) :
    f45_1 tr ba wa st se re li s0 s1 s2 s3 nx he = some (tr, ba, wa, st, se, re, li, s0, s1, s2, s3, nx, he, [], ()) := by
  unfold f45_1
  have q : (st != 2) = true := by simpa using h
  rw [q, cond_true]
theorem RemoteStages (a0 : Bool) (a1 : Int) (w1 : (Lit.int .i64 a1).wf = true) (a2 : Int) (w2 : (Lit.int .i64 a2).wf = true) (a3 : Int) (w3 : (Lit.int .i64 a3).wf = true) : f11 a0 a1 a2 a3 = some (true, ()) := by
  unfold f11
  have b1 := within_b a1 3 (by decide)
  have b2 := within_b a2 50 (by decide)
  have b3 := within_b a3 50 (by decide)
  rw [Remote.known_eq, Remote.within_eq a2 _ (by decide) (by decide), Remote.within_eq a3 _ (by decide) (by decide)]
  simp only [Option.bind_some, Bool.not_true, cond_false]
  generalize within a2 50 = conf at *
  generalize within a3 50 = live at *
  rw [Remote.new_eq 4 20 3 a0 (by decide) (by decide) (by decide) (by decide)]
  have wl : IntKind.wrap .i64 (20 + live) = 20 + live := wr (by omega)
  have wc : IntKind.wrap .i64 (20 + conf) = 20 + conf := wr (by omega)
  simp only [Option.bind_some, Sum.elim_inr, bne_self_eq_false, cond_false, wl, wc]
  rw [stage_eq]
  simp only [Option.bind_some, bne_self_eq_false, cond_false]
  rw [sit_no _ _ _ _ _ _ _ _ _ _ _ _ _ _ (by omega)]
  simp only [Option.bind_some, bne_self_eq_false, cond_false]
  rw [near_no _ _ _ _ _ _ _ _ _ _ _ _ _ _ (by decide)]
  simp only [Option.bind_some, bne_self_eq_false, cond_false]
  rw [seat_eq]
  simp only [Option.bind_some, bne_self_eq_false, cond_false]
  rw [rise_no _ _ _ _ _ _ _ _ _ _ _ _ _ (by decide)]
  simp only [Option.bind_some]
  have hr : List.replicate (Int.toNat 3) false = [false, false, false] := rfl
  rw [hr, heard_eq _ _ _ _ _ _ _ _ _ _ _ _ _ _ _ _ _ _ _ _ (by decide) (by decide)]
  have k1 : acked 3 [false, false, false] ([false, false, false] : List Bool).length = [true, true, false] := by decide
  have k2 : heardStage 2 a0 [true, true, false] = 2 := rfl
  rw [k1, k2]
  simp only [Option.bind_some]
  rw [stage_eq]
  simp only [Option.bind_some, bne_self_eq_false, cond_false]
  have e1 : ∀ re li s0 s1 s2 s3, f45_1 4 20 a0 2 (-1) re li s0 s1 s2 s3 0 [true, true, false] = some (4, 20, a0, 2, -1, re, li, s0, s1, s2, s3, (next 4 0 [true, true, false]).1, [true, true, false], (next 4 0 [true, true, false]).2, ()) :=
    fun re li s0 s1 s2 s3 => chunks_eq 4 20 a0 2 (-1) re li s0 s1 s2 s3 0 [true, true, false] (by decide) (by decide)
  rw [e1]
  have k3 : (next 4 0 [true, true, false]).2 = [2] := by decide
  rw [k3]
  generalize (next 4 0 [true, true, false]).1 = nx
  simp only [Option.bind_some]
  have k4 : (((([2] : List Int).length : Nat) : Int) != 1) = false := rfl
  rw [k4, cond_false, heard_eq _ _ _ _ _ _ _ _ _ _ _ _ _ _ _ _ _ _ _ _ (by decide) (by decide)]
  have k5 : acked 4 [true, true, false] ([true, true, false] : List Bool).length = [true, true, true] := by decide
  have k6 : heardStage 2 a0 [true, true, true] = if a0 = true then 4 else 3 := rfl
  rw [k5, k6]
  have ml : max (max 20 0) (20 + live) = 20 + live := by omega
  have mr : max (max 0 0) 2 = (2 : Int) := by decide
  simp only [Option.bind_some]
  rw [ml, mr]
  have s34 : (if a0 = true then (4 : Int) else 3) ≠ 2 := by split <;> decide
  have s34' : (if a0 = true then (4 : Int) else 3) ≠ 7 := by split <;> decide
  rw [chunks_no _ _ _ _ _ _ _ _ _ _ _ _ _ s34]
  simp only [Option.bind_some]
  have k7 : (((([] : List Int).length : Nat) : Int) != 0) = false := rfl
  rw [k7, cond_false, records_eq]
  simp only [Option.bind_some, bne_self_eq_false, cond_false]
  rw [keep_eq]
  have k8 : keepOf (if a0 = true then (4 : Int) else 3) (20 + live) = 20 + live := by unfold keepOf; rw [if_neg s34']
  rw [k8]
  simp only [Option.bind_some, bne_self_eq_false, cond_false]
  cases a0 with
  | true =>
    simp only [cond_true, if_true]
    rw [stage_eq]
    simp only [Option.bind_some, beq_self_eq_true, cond_true]
    rw [near_no _ _ _ _ _ _ _ _ _ _ _ _ _ _ (by decide)]
    simp only [Option.bind_some, Bool.not_false, cond_true]
    rw [sit_no _ _ _ _ _ _ _ _ _ _ _ _ _ _ (by omega)]
    rfl
  | false =>
    simp only [cond_false, Bool.false_eq_true, if_false]
    rw [stage_eq]
    simp only [Option.bind_some, bne_self_eq_false, cond_false]
    rw [near_yes _ _ _ _ _ _ _ _ _ _ _ _ _ (by omega) (by omega) (by omega) (by omega)]
    have wn : IntKind.wrap .i64 (20 + conf - 6) = 20 + conf - 6 := wr (by omega)
    simp only [Option.bind_some, wn, ge_iff_le, beq_self_eq_true, Bool.not_true, cond_false]
    rw [sit_no _ _ _ _ _ _ _ _ _ _ _ _ _ _ (by omega)]
    simp only [Option.bind_some, bne_self_eq_false, cond_false]
    rw [sit_no _ _ _ _ _ _ _ _ _ _ _ _ _ _ (by omega)]
    simp only [Option.bind_some, bne_self_eq_false, cond_false]
    rw [Remote.within_eq a1 _ (by decide) (by decide)]
    simp only [Option.bind_some]
    generalize within a1 3 = w at *
    have ww : IntKind.wrap .i64 (1 + w) = 1 + w := wr (by omega)
    rw [ww, sit_yes _ _ _ _ _ _ _ _ _ _ _ _ _ (by omega) (by omega)]
    simp only [Option.bind_some, bne_self_eq_false, cond_false]
    rw [stage_eq]
    simp only [Option.bind_some, bne_self_eq_false, cond_false]
    rw [seat_eq]
    simp only [Option.bind_some, bne_self_eq_false, cond_false]
    rw [sit_no _ _ _ _ _ _ _ _ _ _ _ _ _ _ (by omega)]
    simp only [Option.bind_some, bne_self_eq_false, cond_false]
    have n5 : ∀ (c ba li : Int), ¬ isLate c ba 5 li := fun c ba li h => by
      unfold isLate at h; omega
    rw [late_eq _ _ _ _ _ _ _ _ _ _ _ _ _ _ (by omega) (by omega) (by omega) (by omega) (by omega) (by omega), if_neg (n5 _ _ _)]
    have k57 : ((5 : Int) == 7) = false := rfl
    simp only [Option.bind_some, k57, cond_false]
    rw [rise_yes]
    simp only [Option.bind_some]
    rw [stage_eq]
    simp only [Option.bind_some, beq_self_eq_true, cond_true]
    rw [seat_eq]
    simp only [Option.bind_some, beq_self_eq_true, cond_true]
    have w7 : IntKind.wrap .i64 (20 + live + 80) = 20 + live + 80 := wr (by omega)
    have w8 : IntKind.wrap .i64 (IntKind.wrap .i64 (20 + live + 80) + 1) = 20 + live + 80 + 1 := by rw [w7, wr (by omega)]
    rw [w8, late_eq _ _ _ _ _ _ _ _ _ _ _ _ _ _ (by omega) (by omega) (by omega) (by omega) (by omega) (by omega), if_pos (by unfold isLate; rw [if_pos rfl]; omega)]
    simp only [Option.bind_some, cond_true]
    rw [stage_eq]
    rfl
end Go.Proofs.Ytfcfafacjeknaaa.Pure

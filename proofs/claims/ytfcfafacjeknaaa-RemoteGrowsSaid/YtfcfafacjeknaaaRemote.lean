/- What the functions of remote compute (own work). -/
import Derived.Test.YtfcfafacjeknaaaChunkLaw
namespace Go.Proofs.Ytfcfafacjeknaaa.Remote
open Go Go.Proofs.Ytfcfafacjeknaaa.Mx Go.Proofs.Ytfcfafacjeknaaa.Pc Go.Proofs.Ytfcfafacjeknaaa.Run Go.Proofs.Ytfcfafacjeknaaa.Chunk
set_option autoImplicit false
set_option linter.unusedVariables false
set_option linter.unusedSimpArgs false
theorem new_eq (tr ba ch : Int) (wa : Bool) (h1 : 0 ≤ tr) (h2 : 0 ≤ ba) (h3 : 1 ≤ ch) (h4 : ch ≤ 16) : f34 tr wa ba ch = some (Sum.inr (Sum.inr (0, tr, ba, wa, 2, -1, 0, ba, ba, ba, ba, ba, 0, List.replicate ch.toNat false, ()))) := by
  unfold f34
  rw [Chunk.new_eq, if_pos ⟨h3, h4⟩]
  simp only [Option.bind_some, Sum.elim_inr, bne_self_eq_false, cond_false, bif_cl]
  rw [if_neg (by omega), if_neg (by omega)]
def heardStage (st : Int) (wa : Bool) (he : List Bool) : Int := if st = 2 ∧ all he = true then (if wa = true then 4 else 3) else st
theorem heard_late (b rc h0 h1 h2 h3 lv tr ba : Int) (wa : Bool) (se re li s0 s1 s2 s3 nx : Int) (he : List Bool) :
    f35_1 b rc h0 h1 h2 h3 lv tr ba wa 7 se re li s0 s1 s2 s3 nx he = some (tr, ba, wa, 7, se, re, li, s0, s1, s2, s3, nx, he, ()) := by
  unfold f35_1
  rfl
theorem heard_eq (b rc h0 h1 h2 h3 lv tr ba : Int) (wa : Bool) (st se re li s0 s1 s2 s3 nx : Int) (he : List Bool) (hs : st ≠ 7) (hl : he.length ≤ 1000) :
    f35_1 b rc h0 h1 h2 h3 lv tr ba wa st se re li s0 s1 s2 s3 nx he =
      some (tr, ba, wa, heardStage st wa (acked b he he.length), se, max re rc, max li lv, max s0 h0, max s1 h1, max s2 h2, max s3 h3, nx, acked b he he.length, ()) := by
  have q : (st == 7) = false := by simpa using hs
  unfold f35_1
  rw [q, cond_false, ack_eq _ _ _ hl]
  simp only [Option.bind_some, maxI_eq]
  have hal := acked_len b he he.length
  generalize acked b he he.length = hd at *
  generalize max re rc = rr
  generalize max li lv = ll
  refine OK.eq ?_
  unfold f35_1.L1
  refine OK.loop (fun i : Nat => (h0, h1, h2, h3, (i : Int), tr, ba, wa, st, se, rr, ll, (if 0 < i then max s0 h0 else s0), (if 1 < i then max s1 h1 else s1), (if 2 < i then max s2 h2 else s2), (if 3 < i then max s3 h3 else s3), nx, hd, ())) (fun i => i ≤ 4) (fun i => 4 - i) (fun rec i hi ih => ?_) 0 rfl (by decide) (by decide)
  match i, hi with
  | 0, _ => exact ih 1 (by decide) (by decide) _ (by simp [maxI_eq]; exact wr (by decide))
  | 1, _ => exact ih 2 (by decide) (by decide) _ (by simp [maxI_eq]; exact wr (by decide))
  | 2, _ => exact ih 3 (by decide) (by decide) _ (by simp [maxI_eq]; exact wr (by decide))
  | 3, _ => exact ih 4 (by decide) (by decide) _ (by simp [maxI_eq]; exact wr (by decide))
  | 4, _ =>
    have c : ¬ (((4 : Nat) : Int) < 4) := by decide
    simp only [bif_cl]
    rw [if_neg c]
    unfold heardStage
    by_cases h2 : st = 2
    · have q2 : (st == 2) = true := by simpa using h2
      rw [q2, cond_true, done_eq _ _ (by omega)]
      simp only [Option.bind_some]
      cases hall : all hd with
      | false => exact OK.ret (by simp)
      | true =>
        cases wa with
        | true => exact OK.ret (by simp [h2])
        | false => exact OK.ret (by simp [h2])
    · have q2 : (st == 2) = false := by simpa using h2
      rw [q2, cond_false]
      exact OK.ret (by simp [h2])
/-- Is a drop-in late? -/
def isLate (conf ba st li : Int) : Prop := (st = 4 ∨ st = 2 ∨ st = 3) ∧ conf - (if st = 4 then li else ba) > 80
theorem late_eq (conf tr ba : Int) (wa : Bool) (st se re li s0 s1 s2 s3 nx : Int) (he : List Bool) (h1 : -100000 ≤ conf) (h2 : conf ≤ 100000) (h3 : -100000 ≤ ba) (h4 : ba ≤ 100000) (h5 : -100000 ≤ li) (h6 : li ≤ 100000) :
    f36_1 conf tr ba wa st se re li s0 s1 s2 s3 nx he = some (open Classical in if isLate conf ba st li then (true, tr, ba, wa, 7, -1, re, li, s0, s1, s2, s3, nx, he, ()) else (st == 7, tr, ba, wa, st, se, re, li, s0, s1, s2, s3, nx, he, ())) := by
  unfold f36_1 isLate
  simp only [bif_cl]
  by_cases a4 : st = 4
  · subst a4
    simp only [beq_self_eq_true, cond_true, Option.bind_some, Sum.elim_inl, true_or, true_and, if_true]
    rw [wr (by omega)]
    by_cases c1 : conf - li > 80
    · rw [if_pos (by omega), if_pos c1, if_pos c1]
      rfl
    · simp only [c1, if_false]
      by_cases c2 : conf > li
      · simp only [c2, if_true]; rfl
      · simp only [c2, if_false]; rfl
  have q4 : (st == 4) = false := by simpa using a4
  rw [q4, cond_false]
  by_cases a2 : st = 2
  · subst a2
    simp only [beq_self_eq_true, cond_true, Option.bind_some, Sum.elim_inl, true_or, or_true, true_and, a4, if_false]
    rw [wr (by omega)]
    by_cases c1 : conf - ba > 80
    · rw [if_pos (by omega), if_pos c1, if_pos c1]
      rfl
    · simp only [c1, if_false]
      by_cases c2 : conf > ba
      · simp only [c2, if_true]; rfl
      · simp only [c2, if_false]; rfl
  have q2 : (st == 2) = false := by simpa using a2
  rw [q2, cond_false]
  by_cases a3 : st = 3
  · subst a3
    simp only [beq_self_eq_true, cond_true, Option.bind_some, Sum.elim_inl, true_or, or_true, true_and, a4, if_false]
    rw [wr (by omega)]
    by_cases c1 : conf - ba > 80
    · rw [if_pos (by omega), if_pos c1, if_pos c1]
      rfl
    · simp only [c1, if_false]
      by_cases c2 : conf > ba
      · simp only [c2, if_true]; rfl
      · simp only [c2, if_false]; rfl
  have q3 : (st == 3) = false := by simpa using a3
  rw [q3, cond_false, if_neg (by omega)]
  rfl
theorem chunks_eq (tr ba : Int) (wa : Bool) (st se re li s0 s1 s2 s3 : Int) (nx : Nat) (he : List Bool) (hn : nx < he.length) (hl : he.length ≤ 1000) :
    f45_1 tr ba wa st se re li s0 s1 s2 s3 nx he = some (if st = 2 then (tr, ba, wa, st, se, re, li, s0, s1, s2, s3, (next 4 nx he).1, he, (next 4 nx he).2, ()) else (tr, ba, wa, st, se, re, li, s0, s1, s2, s3, (nx : Int), he, [], ())) := by
  unfold f45_1
  by_cases h : st = 2
  · subst h
    simp only [bne_self_eq_false, cond_false, if_true]
    rw [next_eq _ _ _ hn hl]
    rfl
  · have q : (st != 2) = true := by simpa using h
    rw [q, cond_true, if_neg h]
theorem stage_eq (tr ba : Int) (wa : Bool) (st se re li s0 s1 s2 s3 nx : Int) (he : List Bool) : f37_1 tr ba wa st se re li s0 s1 s2 s3 nx he = some (st, tr, ba, wa, st, se, re, li, s0, s1, s2, s3, nx, he, ()) := rfl
theorem within_eq (a n : Int) (h : 0 < n) (hn : n ≤ 1000000000000) : f33 a n = some (within a n, ()) := by
  have := within_b a n h
  unfold f33 within
  simp only [Option.bind_some, bif_dec]
  rw [if_neg (by omega)]
  split
  · rw [wr (by omega)]; rfl
  · rfl
theorem bit_one : bit 1 0 = true := by decide
theorem known_eq : f32 = some (true, ()) := by
  unfold f32
  rw [new_eq 1 5 2 false (by decide) (by decide) (by decide) (by decide)]
  simp only [Option.bind_some, Sum.elim_inr, bne_self_eq_false, cond_false]
  have e1 : f45_1 1 5 false 2 (-1) 0 5 5 5 5 5 0 (List.replicate (Int.toNat 2) false) = some (1, 5, false, 2, -1, 0, 5, 5, 5, 5, 5, 0, List.replicate (Int.toNat 2) false, [0, 1], ()) :=
    chunks_eq 1 5 false 2 (-1) 0 5 5 5 5 5 0 (List.replicate (Int.toNat 2) false) (by decide) (by decide)
  rw [e1]
  simp only [Option.bind_some]
  rw [heard_eq _ _ _ _ _ _ _ _ _ _ _ _ _ _ _ _ _ _ _ _ (by decide) (by decide)]
  rfl
end Go.Proofs.Ytfcfafacjeknaaa.Remote

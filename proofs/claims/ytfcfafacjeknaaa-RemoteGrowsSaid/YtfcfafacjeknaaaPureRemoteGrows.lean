/- The law RemoteGrows, in plain words (own work). -/
import Derived.Test.YtfcfafacjeknaaaRemote
namespace Go.Proofs.Ytfcfafacjeknaaa.Pure
open Go Go.Proofs.Ytfcfafacjeknaaa.Mx Go.Proofs.Ytfcfafacjeknaaa.Pc Go.Proofs.Ytfcfafacjeknaaa.Run Go.Proofs.Ytfcfafacjeknaaa.Chunk Go.Proofs.Ytfcfafacjeknaaa.Remote
set_option linter.unusedVariables false
set_option linter.unusedSimpArgs false
abbrev CallT := Int × Int × Int × Int × Int × Int × Int × Int × Int
theorem since_eq (s : Nat) (hs : s < 4) (tr ba : Int) (wa : Bool) (st se re li s0 s1 s2 s3 nx : Int) (he : List Bool) :
    f40_1 (s : Int) tr ba wa st se re li s0 s1 s2 s3 nx he = some ([s0, s1, s2, s3].getD s 0, tr, ba, wa, st, se, re, li, s0, s1, s2, s3, nx, he, ()) := by
  unfold f40_1
  rw [bif_dec, bif_dec, if_neg (by omega), if_neg (by omega), inR (by omega)]
  rfl
def keepOf (st li : Int) : Int := if st = 7 then 1073741823 else li
theorem keep_eq (tr ba : Int) (wa : Bool) (st se re li s0 s1 s2 s3 nx : Int) (he : List Bool) :
    f39_1 tr ba wa st se re li s0 s1 s2 s3 nx he = some (keepOf st li, tr, ba, wa, st, se, re, li, s0, s1, s2, s3, nx, he, ()) := by
  unfold f39_1 keepOf
  by_cases h : st = 7
  · subst h; rfl
  · have q : (st == 7) = false := by simpa using h
    rw [q, if_neg h]; rfl
theorem records_eq (tr ba : Int) (wa : Bool) (st se re li s0 s1 s2 s3 nx : Int) (he : List Bool) :
    f38_1 tr ba wa st se re li s0 s1 s2 s3 nx he = some (re, tr, ba, wa, st, se, re, li, s0, s1, s2, s3, nx, he, ()) := rfl
theorem check_ok (k0 : Int × List CallT × Bool × Int × Int × Int × Bool × Int × Int × Int × Int × Int × Int × Int × Int × Int × List Bool × Unit → Option (Bool × Unit)) (Q : Bool × Unit → Prop)
    (base : Int) (calls : List CallT) (late : Bool) (i : Nat) (hi : i ≤ 100) (tr ba : Int) (wa : Bool) (st se re li s0 s1 s2 s3 v0 v1 v2 v3 nx : Int) (he : List Bool)
    (h : v0 ≤ s0 ∧ v1 ≤ s1 ∧ v2 ≤ s2 ∧ v3 ≤ s3) (hb : base ≤ s0 ∧ base ≤ s1 ∧ base ≤ s2 ∧ base ≤ s3)
    (k : OK (k0 (base, calls, late, ((i + 1 : Nat) : Int), tr, ba, wa, st, se, re, li, s0, s1, s2, s3, nx, he, ())) Q) :
    OK (f10.L4 k0 (base, calls, late, (i : Int), 0, tr, ba, wa, st, se, re, li, s0, s1, s2, s3, v0, v1, v2, v3, nx, he, ())) Q := by
  have key : ∀ t : Nat, t < 4 → ¬ [s0, s1, s2, s3].getD t 0 < [v0, v1, v2, v3].getD t 0 ∧ ¬ [s0, s1, s2, s3].getD t 0 < base := by
    intro t ht
    match t, ht with
    | 0, _ => exact ⟨by show ¬ s0 < v0; omega, by show ¬ s0 < base; omega⟩
    | 1, _ => exact ⟨by show ¬ s1 < v1; omega, by show ¬ s1 < base; omega⟩
    | 2, _ => exact ⟨by show ¬ s2 < v2; omega, by show ¬ s2 < base; omega⟩
    | 3, _ => exact ⟨by show ¬ s3 < v3; omega, by show ¬ s3 < base; omega⟩
  unfold f10.L4
  refine OK.loop (fun t : Nat => (base, calls, late, (i : Int), (t : Int), tr, ba, wa, st, se, re, li, s0, s1, s2, s3, v0, v1, v2, v3, nx, he, ())) (fun t => t ≤ 4) (fun t => 4 - t) (fun rec t ht ih => ?_) 0 rfl (by decide) (by decide)
  dsimp only at ht ih ⊢
  by_cases c : t < 4
  · have c' : (t : Int) < 4 := by omega
    obtain ⟨n1, n2⟩ := key t c
    rw [bif_dec, if_pos c', since_eq t c]
    simp only [Option.bind_some]
    rw [inR (by omega), cond_true, bif_dec]
    have e : Int.toNat (t : Int) = t := by omega
    rw [e, if_neg n1, since_eq t c]
    simp only [Option.bind_some]
    rw [bif_dec, if_neg n2]
    exact ih (t + 1) (by omega) (by omega) _ (by simp only [Prod.mk.injEq, true_and, and_true]; rw [wr (by omega)]; omega)
  · have c' : ¬ (t : Int) < 4 := by omega
    rw [bif_dec, if_neg c', wr (by omega)]
    exact k
structure Inv (base ba : Int) (late : Bool) (st li s0 s1 s2 s3 : Int) (he : List Bool) : Prop where
  lt : late = true → st = 7
  b1 : 0 ≤ ba
  b2 : ba ≤ 1000
  l1 : 0 ≤ li
  l2 : li ≤ 1000
  h0 : base ≤ s0
  h1 : base ≤ s1
  h2 : base ≤ s2
  h3 : base ≤ s3
  hl : he.length = 4
theorem step_ok (k0 : Int × List CallT × Bool × Int × Int × Int × Bool × Int × Int × Int × Int × Int × Int × Int × Int × Int × List Bool × Unit → Option (Bool × Unit)) (Q : Bool × Unit → Prop)
    (base : Int) (calls : List CallT) (late : Bool) (i : Nat) (hi : i ≤ 100) (tr ba : Int) (wa : Bool) (st se re li s0 s1 s2 s3 : Int) (cK cN cR cL cB c0 c1 c2 c3 : Int) (nx : Int) (he : List Bool)
    (I : Inv base ba late st li s0 s1 s2 s3 he)
    (k : ∀ late' st' se' re' li' s0' s1' s2' s3' he', Inv base ba late' st' li' s0' s1' s2' s3' he' → OK (k0 (base, calls, late', ((i + 1 : Nat) : Int), tr, ba, wa, st', se', re', li', s0', s1', s2', s3', nx, he', ())) Q) :
    OK (f10.L5 k0 (base, calls, late, (i : Int), re, keepOf st li, 0, tr, ba, wa, st, se, re, li, s0, s1, s2, s3, cK, cN, cR, cL, cB, c0, c1, c2, c3, 0, 0, 0, 0, nx, he, ())) Q := by
  unfold f10.L5
  refine OK.loop (fun t : Nat => (base, calls, late, (i : Int), re, keepOf st li, (t : Int), tr, ba, wa, st, se, re, li, s0, s1, s2, s3, cK, cN, cR, cL, cB, c0, c1, c2, c3, (if 0 < t then s0 else 0), (if 1 < t then s1 else 0), (if 2 < t then s2 else 0), (if 3 < t then s3 else 0), nx, he, ())) (fun t => t ≤ 4) (fun t => 4 - t) (fun rec t ht ih => ?_) 0 rfl (by decide) (by decide)
  dsimp only at ht ih ⊢
  by_cases c : t < 4
  · have c' : (t : Int) < 4 := by omega
    rw [bif_dec, if_pos c', since_eq t c]
    simp only [Option.bind_some]
    rw [inR (by omega), cond_true]
    refine ih (t + 1) (by omega) (by omega) _ ?_
    have w : IntKind.wrap .i64 ((t : Int) + 1) = ((t + 1 : Nat) : Int) := by rw [wr (by omega)]; omega
    rw [w]
    match t, c with
    | 0, _ => rfl
    | 1, _ => rfl
    | 2, _ => rfl
    | 3, _ => rfl
  · have c' : ¬ (t : Int) < 4 := by omega
    have t4 : t = 4 := by omega
    subst t4
    rw [bif_dec, if_neg c']
    simp only [Nat.reduceLT, if_true]
    have b0 := within_b cN 300 (by decide)
    have bl := within_b cL 500 (by decide)
    have kk : ∀ x : Int, ¬ x < x := fun (x : Int) => by omega
    by_cases cz : Int.tmod cK 3 = 0
    · have q : (Int.tmod cK 3 == 0) = true := by simpa using cz
      rw [q, cond_true, Remote.within_eq _ _ (by decide) (by decide)]
      simp only [Option.bind_some]
      rw [late_eq _ _ _ _ _ _ _ _ _ _ _ _ _ _ (by omega) (by omega) (by have := I.b1; omega) (by have := I.b2; omega) (by have := I.l1; omega) (by have := I.l2; omega)]
      by_cases il : isLate (within cN 300) ba st li
      · rw [if_pos il]
        simp only [Option.bind_some, cond_true]
        rw [records_eq]
        simp only [Option.bind_some]
        rw [bif_dec, if_neg (kk re), keep_eq]
        simp only [Option.bind_some]
        have k7 : ¬ keepOf 7 li < keepOf st li := by
          have := I.l2
          unfold keepOf; rw [if_pos rfl]; split <;> omega
        rw [bif_dec, if_neg k7, stage_eq]
        simp only [Option.bind_some, bne_self_eq_false, cond_false]
        exact check_ok k0 Q base calls true i hi tr ba wa 7 (-1) re li s0 s1 s2 s3 s0 s1 s2 s3 nx he ⟨by omega, by omega, by omega, by omega⟩ ⟨I.h0, I.h1, I.h2, I.h3⟩ (k true 7 (-1) re li s0 s1 s2 s3 he ⟨fun _ => rfl, I.b1, I.b2, I.l1, I.l2, I.h0, I.h1, I.h2, I.h3, I.hl⟩)
      · rw [if_neg il]
        simp only [Option.bind_some]
        by_cases s7 : st = 7
        · have q7 : (st == 7) = true := by simpa using s7
          rw [q7, cond_true, records_eq]
          simp only [Option.bind_some]
          rw [bif_dec, if_neg (kk re), keep_eq]
          simp only [Option.bind_some]
          have q7' : (st != 7) = false := by simp [s7]
          rw [bif_dec, if_neg (kk _), stage_eq]
          simp only [Option.bind_some, q7', cond_false]
          exact check_ok k0 Q base calls true i hi tr ba wa st se re li s0 s1 s2 s3 s0 s1 s2 s3 nx he ⟨by omega, by omega, by omega, by omega⟩ ⟨I.h0, I.h1, I.h2, I.h3⟩ (k true st se re li s0 s1 s2 s3 he ⟨fun _ => s7, I.b1, I.b2, I.l1, I.l2, I.h0, I.h1, I.h2, I.h3, I.hl⟩)
        · have q7 : (st == 7) = false := by simpa using s7
          have lf : late = false := by
            cases hh : late with
            | false => rfl
            | true => exact absurd (I.lt hh) s7
          rw [q7, cond_false, records_eq]
          simp only [Option.bind_some]
          rw [bif_dec, if_neg (kk re), keep_eq]
          simp only [Option.bind_some]
          rw [bif_dec, if_neg (kk _)]
          subst lf
          rw [cond_false]
          exact check_ok k0 Q base calls false i hi tr ba wa st se re li s0 s1 s2 s3 s0 s1 s2 s3 nx he ⟨by omega, by omega, by omega, by omega⟩ ⟨I.h0, I.h1, I.h2, I.h3⟩ (k false st se re li s0 s1 s2 s3 he I)
    · have q : (Int.tmod cK 3 == 0) = false := by simpa using cz
      rw [q, cond_false, Remote.within_eq _ _ (by decide) (by decide), Remote.within_eq _ _ (by decide) (by decide), Remote.within_eq _ _ (by decide) (by decide), Remote.within_eq _ _ (by decide) (by decide)]
      simp only [Option.bind_some]
      by_cases s7 : st = 7
      · subst s7
        rw [heard_late]
        simp only [Option.bind_some]
        rw [records_eq]
        simp only [Option.bind_some]
        rw [bif_dec, if_neg (kk re), keep_eq]
        simp only [Option.bind_some]
        rw [bif_dec, if_neg (kk _)]
        cases hh : late with
        | true =>
          rw [cond_true, stage_eq]
          simp only [Option.bind_some, bne_self_eq_false, cond_false]
          exact check_ok k0 Q base calls true i hi tr ba wa 7 se re li s0 s1 s2 s3 s0 s1 s2 s3 nx he ⟨by omega, by omega, by omega, by omega⟩ ⟨I.h0, I.h1, I.h2, I.h3⟩ (k true 7 se re li s0 s1 s2 s3 he ⟨fun _ => rfl, I.b1, I.b2, I.l1, I.l2, I.h0, I.h1, I.h2, I.h3, I.hl⟩)
        | false =>
          rw [cond_false]
          exact check_ok k0 Q base calls false i hi tr ba wa 7 se re li s0 s1 s2 s3 s0 s1 s2 s3 nx he ⟨by omega, by omega, by omega, by omega⟩ ⟨I.h0, I.h1, I.h2, I.h3⟩ (k false 7 se re li s0 s1 s2 s3 he ⟨fun _ => rfl, I.b1, I.b2, I.l1, I.l2, I.h0, I.h1, I.h2, I.h3, I.hl⟩)
      · have lf : late = false := by
          cases hh : late with
          | false => rfl
          | true => exact absurd (I.lt hh) s7
        subst lf
        rw [heard_eq _ _ _ _ _ _ _ _ _ _ _ _ _ _ _ _ _ _ _ _ s7 (by have := I.hl; omega)]
        simp only [Option.bind_some]
        rw [records_eq]
        simp only [Option.bind_some]
        have r7 : ¬ max re (within cR 500) < re := by omega
        rw [bif_dec, if_neg r7, keep_eq]
        simp only [Option.bind_some]
        have hs : heardStage st wa (acked cB he he.length) ≠ 7 := by
          unfold heardStage
          split
          · split <;> decide
          · exact s7
        have k7 : ¬ keepOf (heardStage st wa (acked cB he he.length)) (max li (within cL 500)) < keepOf st li := by
          unfold keepOf; rw [if_neg hs, if_neg s7]; omega
        rw [bif_dec, if_neg k7, cond_false]
        have i0 := I.h0
        have i1 := I.h1
        have i2 := I.h2
        have i3 := I.h3
        exact check_ok k0 Q base calls false i hi tr ba wa _ se _ _ _ _ _ _ s0 s1 s2 s3 nx _ ⟨by omega, by omega, by omega, by omega⟩ ⟨by omega, by omega, by omega, by omega⟩ (k false _ se _ _ _ _ _ _ _ ⟨fun h => by simp at h, I.b1, I.b2, by have := I.l1; omega, by have := I.l2; omega, by omega, by omega, by omega, by omega, by rw [acked_len]; exact I.hl⟩)
theorem loop_ok (base : Int) (calls : List CallT) (tr ba : Int) (wa : Bool) (se0 : Int) (nx : Int) (st re li s0 s1 s2 s3 : Int) (he : List Bool) (hlen : calls.length ≤ 1000000000000000)
    (I0 : Inv base ba false st li s0 s1 s2 s3 he) :
    OK (f10.L6 (base, calls, false, 0, tr, ba, wa, st, se0, re, li, s0, s1, s2, s3, nx, he, ())) (fun r => r = (true, ())) := by
  unfold f10.L6
  refine OK.loop (fun x : Nat × Bool × Int × Int × Int × Int × Int × Int × Int × Int × List Bool => (base, calls, x.2.1, (x.1 : Int), tr, ba, wa, x.2.2.1, x.2.2.2.1, x.2.2.2.2.1, x.2.2.2.2.2.1, x.2.2.2.2.2.2.1, x.2.2.2.2.2.2.2.1, x.2.2.2.2.2.2.2.2.1, x.2.2.2.2.2.2.2.2.2.1, nx, x.2.2.2.2.2.2.2.2.2.2, ()))
    (fun x => x.1 ≤ 60 ∧ Inv base ba x.2.1 x.2.2.1 x.2.2.2.2.2.1 x.2.2.2.2.2.2.1 x.2.2.2.2.2.2.2.1 x.2.2.2.2.2.2.2.2.1 x.2.2.2.2.2.2.2.2.2.1 x.2.2.2.2.2.2.2.2.2.2) (fun x => 60 - x.1) (fun rec x hx ih => ?_) (0, false, st, se0, re, li, s0, s1, s2, s3, he) rfl ⟨Nat.zero_le _, I0⟩ (by dsimp only; decide)
  obtain ⟨i, late, st, se, re, li, s0, s1, s2, s3, he⟩ := x
  obtain ⟨hi, I⟩ := hx
  dsimp only at hi I ih ⊢
  by_cases c1 : i < calls.length
  · have c1' : (i : Int) < (calls.length : Int) := by omega
    rw [bif_dec, if_pos c1', bif_dec]
    by_cases c2 : i < 60
    · have c2' : (i : Int) < 60 := by omega
      rw [if_pos c2', inR (by omega), cond_true, records_eq]
      simp only [Option.bind_some]
      rw [keep_eq]
      simp only [Option.bind_some]
      have e : Int.toNat (i : Int) = i := by omega
      rw [e]
      generalize calls.getD i (0, 0, 0, 0, 0, 0, 0, 0, 0) = cc
      refine step_ok rec _ base calls late i (by omega) tr ba wa st se re li s0 s1 s2 s3 _ _ _ _ _ _ _ _ _ nx he I ?_
      intro late' st' se' re' li' s0' s1' s2' s3' he' I'
      exact ih (i + 1, late', st', se', re', li', s0', s1', s2', s3', he') ⟨by dsimp only; omega, I'⟩ (by dsimp only; omega) _ rfl
    · have c2' : ¬ (i : Int) < 60 := by omega
      rw [if_neg c2']
      exact OK.ret rfl
  · have c1' : ¬ (i : Int) < (calls.length : Int) := by omega
    rw [bif_dec, if_neg c1']
    exact OK.ret rfl
theorem RemoteGrows (a0 : Int) (w0 : (Lit.int .i64 a0).wf = true) (a1 : List (Int × Int × Int × Int × Int × Int × Int × Int × Int)) (w1 : Ty.good (.row (.prod (.int .i64) (.prod (.int .i64) (.prod (.int .i64) (.prod (.int .i64) (.prod (.int .u32) (.prod (.int .i64) (.prod (.int .i64) (.prod (.int .i64) (.int .i64)))))))))) a1) (z1 : a1.length * 72 ≤ 140737488351232) : f10 a0 a1 = some (true, ()) := by
  unfold f10
  have b0 := within_b a0 1000 (by decide)
  rw [Remote.known_eq, Remote.within_eq _ _ (by decide) (by decide)]
  simp only [Option.bind_some, Bool.not_true, cond_false]
  rw [Remote.new_eq 3 _ 4 false (by decide) (by omega) (by decide) (by decide)]
  simp only [Option.bind_some, Sum.elim_inr, bne_self_eq_false, cond_false]
  exact (loop_ok _ a1 3 _ false (-1) 0 2 0 _ _ _ _ _ _ (by omega) ⟨fun h => by simp at h, by omega, by omega, by omega, by omega, by omega, by omega, by omega, by omega, by simp⟩).eq
end Go.Proofs.Ytfcfafacjeknaaa.Pure

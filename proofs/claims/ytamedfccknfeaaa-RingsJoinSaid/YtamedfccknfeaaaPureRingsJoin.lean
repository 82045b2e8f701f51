/- The law RingsJoin, in plain words (own work). -/
import Derived.Test.YtamedfccknfeaaaRings
namespace Go.Proofs.Ytamedfccknfeaaa.Pure
open Go Go.Proofs.Ytamedfccknfeaaa.Mx Go.Proofs.Ytamedfccknfeaaa.Pc Go.Proofs.Ytamedfccknfeaaa.Run Go.Proofs.Ytamedfccknfeaaa.Rings
set_option linter.unusedVariables false
theorem same_eq (a : List Int) (h : a.length ≤ 1000000000) : f16 a a = some (true, ()) := by
  unfold f16
  simp only [bne_self_eq_false, cond_false]
  refine OK.eq ?_
  refine OK.loop (fun i : Nat => (a, a, (i : Int), ())) (fun i => i ≤ a.length) (fun i => a.length - i) (fun rec i hi ih => ?_) 0 rfl (Nat.zero_le _) (by omega)
  simp only [bif_dec, bne_self_eq_false, cond_false]
  by_cases c : (i : Int) < a.length
  · rw [if_pos c, inR (by omega), cond_true, cond_true, wr (by omega)]
    exact ih (i + 1) (by omega) (by omega) _ (by simp)
  · rw [if_neg c]
    exact OK.ret rfl
theorem clamp_all {l : List Int} (h : ∀ x ∈ l, 0 ≤ x ∧ x < 11) : l.map clamp = l := by
  induction l with
  | nil => rfl
  | cons x l ih =>
    have := h x List.mem_cons_self
    rw [List.map_cons, clamp_id (by omega) (by omega), ih fun y hy => h y (List.mem_cons_of_mem _ hy)]
theorem grow (W : List Int) (have_ i c : Nat) (h1 : i ≤ have_) (h2 : have_ ≤ W.length) (h3 : i + c ≤ W.length) : W.take have_ ++ ((W.take (i + c)).drop i).drop (have_ - i) = W.take (max have_ (i + c)) := by
  rw [List.drop_drop, show i + (have_ - i) = have_ by omega]
  rcases Nat.le_total have_ (i + c) with h | h
  · rw [Nat.max_eq_right h]
    conv => rhs; rw [← List.take_append_drop have_ (W.take (i + c)), List.take_take, Nat.min_eq_left h]
  · rw [Nat.max_eq_left h, List.drop_eq_nil_of_le (by rw [List.length_take]; omega), List.append_nil]
theorem RingsJoin (a0 : Int) (w0 : (Lit.int .i64 a0).wf = true) (a1 : List Int) (w1 : Ty.good (.row (.int .i64)) a1) (z1 : a1.length * 8 ≤ 140737488351232) (a2 : List Int) (w2 : Ty.good (.row (.int .i64)) a2) (z2 : a2.length * 8 ≤ 140737488351232)
    (a3 : List Int) (w3 : Ty.good (.row (.int .i64)) a3) (z3 : a3.length * 8 ≤ 140737488351232) : Run.f4 a0 a1 a2 a3 = some (true, ()) := by
  unfold f4
  rw [known_eq]
  simp only [Option.bind_some, Bool.not_true, cond_false, bif_dec]
  by_cases c0 : (a1.length : Int) > 100
  · rw [if_pos c0]
  rw [if_neg c0]
  obtain ⟨e1, b1, b2⟩ := within_eq a0 1000 (by decide) (by decide)
  generalize within a0 1000 = base at *
  rw [e1]
  simp only [Option.bind_some]
  rw [new_eq, Int.max_eq_left b1]
  simp only [Option.bind_some]
  rw [if_pos (by simp [limit]; omega)]
  have wn : ∀ x, f11 x 11 = some (within x 11, ()) ∧ 0 ≤ within x 11 ∧ within x 11 < 11 := fun x => within_eq x 11 (by decide) (by decide)
  refine OK.eq ?_
  refine OK.loop (fun i : Nat => (base, a1, a2, a3, (i : Int), base, (a1.take i).map (fun x => within x 11) ++ List.replicate (a1.length - i) 0, ())) (fun i => i ≤ a1.length) (fun i => a1.length - i) (fun rec i hi ih => ?_) 0 (by simp) (Nat.zero_le _) (by omega)
  simp only [Int.toNat_natCast]
  by_cases c : (i : Int) < a1.length
  · have hi : i < a1.length := by omega
    rw [if_pos c, inR (by omega), cond_true, (wn _).1]
    simp only [Option.bind_some]
    rw [inR (by simp; omega), cond_true, wr (by omega)]
    refine ih (i + 1) (by omega) (by omega) _ ?_
    have hr : List.replicate (a1.length - i) (0 : Int) = 0 :: List.replicate (a1.length - (i + 1)) 0 := by rw [← List.replicate_succ]; congr 1; omega
    have hl : ((a1.take i).map fun x => within x 11).length = i := by rw [List.length_map, List.length_take]; omega
    rw [hr, List.take_succ_eq_append_getElem hi, List.map_append, List.set_append_right _ _ (by omega), hl]
    simp [List.getD_eq_getElem?_getD, hi]
  · rw [if_neg c, show i = a1.length by omega, List.take_length, Nat.sub_self, List.replicate_zero, List.append_nil]
    have hW : ∀ x ∈ a1.map (fun x => within x 11), 0 ≤ x ∧ x < 11 := fun x hx => by
      obtain ⟨y, _, rfl⟩ := List.mem_map.1 hx
      exact (wn y).2
    have hWl : (a1.map fun x => within x 11).length = a1.length := List.length_map _
    generalize (a1.map fun x => within x 11) = W at *
    have hWt : ∀ n m, ((W.take n).drop m).map clamp = (W.take n).drop m := fun n m => clamp_all fun x hx => hW x (List.mem_of_mem_take (List.mem_of_mem_drop hx))
    -- the second loop
    refine OK.callR (R := fun y => ∃ h : Nat, h ≤ W.length ∧ y = Sum.inl (base, base, W, W.take h, ())) ?_ ?_
    · refine OK.loop (fun j : Nat × Nat => (base, a2, a3, (j.2 : Int), (j.1 : Int), base, W, W.take j.2, ())) (fun j => j.1 ≤ 40 ∧ j.2 ≤ W.length) (fun j => 40 - j.1) (fun rec j hj ih => ?_) (0, 0) (by simp) (by simp) (by simp)
      obtain ⟨k, hv⟩ := j
      obtain ⟨hk, hv2⟩ := hj
      dsimp only at hk hv2
      have out : OK (some (Sum.inl (base, base, W, W.take hv, ()) : (Int × Int × List Int × List Int × Unit) ⊕ (Bool × Unit))) fun y => ∃ h : Nat, h ≤ W.length ∧ y = Sum.inl (base, base, W, W.take h, ()) := OK.ret ⟨hv, hv2, rfl⟩
      simp only
      by_cases c1 : (k : Int) < a2.length
      · by_cases c2 : (k : Int) < a3.length
        · by_cases c3 : (k : Int) < 40
          · rw [if_pos c1, if_pos c2, if_pos c3, inR (by omega), cond_true]
            simp (disch := omega) only [wr]
            obtain ⟨ei, i1, i2⟩ := within_eq (a2.getD (k : Int).toNat 0) ((W.length : Int) + 1) (by omega) (by omega)
            generalize within (a2.getD (k : Int).toNat 0) ((W.length : Int) + 1) = i at *
            rw [ei]
            simp only [Option.bind_some]
            rw [inR (by omega), cond_true]
            simp (disch := omega) only [wr]
            obtain ⟨ec, n1, n2⟩ := within_eq (a3.getD (k : Int).toNat 0) ((W.length : Int) - i + 1) (by omega) (by omega)
            generalize within (a3.getD (k : Int).toNat 0) ((W.length : Int) - i + 1) = n at *
            rw [ec]
            simp only [Option.bind_some]
            simp (disch := omega) only [wr]
            obtain ⟨i, rfl⟩ := Int.eq_ofNat_of_zero_le i1
            obtain ⟨n, rfl⟩ := Int.eq_ofNat_of_zero_le n1
            rw [if_pos (by omega)]
            have hlen : ((W.take (i + n)).drop i).length = n := by rw [List.length_drop, List.length_take]; omega
            simp only [Int.toNat_natCast, show ((i : Int) + (n : Int)).toNat = i + n by omega]
            rw [put1 _ _ _ _ b1 (by omega) (by rw [List.length_take]; omega) (by rw [hlen]; omega) (by omega)]
            simp only [Option.bind_some]
            have hth : (W.take hv).length = hv := by rw [List.length_take]; omega
            unfold put
            rw [hth]
            by_cases c4 : (i : Int) > hv
            · rw [if_pos c4, if_pos (by omega)]
              simp only [bne_self_eq_false, cond_false]
              exact ih (k + 1, hv) ⟨by dsimp only; omega, hv2⟩ (by dsimp only; omega) _ (by simp)
            · rw [if_neg c4, if_neg (by omega), if_neg (by omega)]
              simp only [bne_self_eq_false, cond_false]
              rw [show (base + (hv : Int) + 1 - (base + 1 + (i : Int))).toNat = hv - i by omega, List.length_drop, hlen, maxI_eq, maxI_eq, List.drop_drop, hWt, ← List.drop_drop, grow W hv i n (by omega) hv2 (by omega)]
              have q : (((n - (hv - i) : Nat) : Int) != max 0 ((i : Int) + n - hv)) = false := by simp; omega
              rw [q, cond_false]
              refine ih (k + 1, max hv (i + n)) ⟨by dsimp only; omega, by dsimp only; omega⟩ (by dsimp only; omega) _ ?_
              simp only [Prod.mk.injEq, true_and, and_true]
              omega
          · rw [if_pos c1, if_pos c2, if_neg c3]; exact out
        · rw [if_pos c1, if_neg c2]; exact out
      · rw [if_neg c1]; exact out
    · rintro _ ⟨h, hh, rfl⟩
      simp only [Sum.elim_inl]
      have hth : (W.take h).length = h := by rw [List.length_take]; omega
      rw [wr (by omega), put1 _ _ _ _ b1 (by omega) (by omega) (by omega) (by omega)]
      simp only [Option.bind_some]
      have hp : put (base + 1) W base (W.take h) = ((((W.drop h).length : Nat) : Int), 0, base, W, ()) := by
        unfold put
        rw [hth, if_neg (by omega), if_neg (by omega), show (base + (h : Int) + 1 - (base + 1)).toNat = h by omega, clamp_all fun x hx => hW x (List.mem_of_mem_drop hx), List.take_append_drop]
      rw [hp]
      simp only
      refine OK.loop (fun i : Nat => (base, (i : Int), base, W, W, ())) (fun i => i ≤ W.length) (fun i => W.length - i) (fun rec i hi ih => ?_) 0 rfl (Nat.zero_le _) (by omega)
      simp only
      by_cases c : (i : Int) < W.length
      · rw [if_pos c]
        simp (disch := omega) only [wr]
        rw [get_eq _ _ _ b1 (by omega) (by omega) (by omega) (by omega)]
        have hg : getR base W (base + 1 + i) = (W.getD i 0, true) := by
          unfold getR
          rw [if_neg (by omega), if_pos (by omega), show (base + 1 + (i : Int) - base - 1).toNat = i by omega]
        rw [hg]
        simp only [Option.bind_some, Bool.not_true, cond_false, Int.toNat_natCast, bne_self_eq_false]
        rw [inR (by omega), cond_true]
        exact ih (i + 1) (by omega) (by omega) _ (by simp)
      · rw [if_neg c]
        unfold f15
        simp only [Option.bind_some, beq_self_eq_true, cond_true]
        rw [since_eq _ _ _ b1 (by omega) (by omega) (by omega)]
        rw [show (min (max base base) (base + W.length) - base).toNat = 0 by omega, List.drop_zero]
        simp only [Option.bind_some]
        rw [same_eq _ (by omega)]
        exact OK.ret rfl
end Go.Proofs.Ytamedfccknfeaaa.Pure

/- The law TableLives, in plain words (own work). -/
import Derived.Test.YtamedfccknfeaaaTable
namespace Go.Proofs.Ytamedfccknfeaaa.Pure
open Go Go.Proofs.Ytamedfccknfeaaa.Mx Go.Proofs.Ytamedfccknfeaaa.Pc Go.Proofs.Ytamedfccknfeaaa.Run Go.Proofs.Ytamedfccknfeaaa.Table
set_option linter.unusedVariables false
/-- i spans of one seat, the last of which ended at 'at'. -/
structure Lives (seat : Int) (i : Nat) (at_ : Int) (l : List S) : Prop where
  len : l.length = i
  all : ∀ j, j < i → (l.getD j s0).1 = seat ∧ (l.getD j s0).2.1 ≤ at_
  last : 0 < i → (l.getD (i - 1) s0).2.2.1 = at_ ∧ 0 < at_
theorem bk_last {p : S → Bool} {l : List S} {n : Nat} (hl : l.length = n + 1) (hp : p (l.getD n s0) = true) : bk p l = n := by
  have := take_last l n (by omega)
  rw [List.take_of_length_le (by omega)] at this
  rw [this, bk_app, if_pos hp, List.length_take]
  omega
theorem bk_none {p : S → Bool} {l : List S} (hl : l.length = 0) : bk p l = -1 := by
  rw [List.length_eq_zero_iff.1 hl]; rfl
variable {seat : Int} {i : Nat} {at_ fr un la k : Int} {l : List S}
theorem Lives.seatIx (h : Lives seat i at_ l) : bk (ofSeat seat) l = (i : Int) - 1 := by
  rcases Nat.eq_zero_or_pos i with rfl | hp
  · rw [bk_none h.len]; rfl
  · rw [bk_last (n := i - 1) (by have := h.len; omega) (by show (_ == _) = true; rw [(h.all (i - 1) (by omega)).1]; exact beq_self_eq_true _)]
    omega
theorem Lives.begunIx (h : Lives seat i at_ l) (hk : at_ < k) : bk (began seat k) l = (i : Int) - 1 := by
  rcases Nat.eq_zero_or_pos i with rfl | hp
  · rw [bk_none h.len]; rfl
  · have := h.all (i - 1) (by omega)
    rw [bk_last (n := i - 1) (by have := h.len; omega) (by show (_ == _ && decide _) = true; rw [this.1, beq_self_eq_true, Bool.true_and, decide_eq_true]; omega)]
    omega
/-- The list with one more span. -/
def more (l : List S) (seat fr un la : Int) : List S := l ++ [(seat, fr, un, la)]
theorem more_old (h : l.length = i) (j : Nat) (hj : j < i) : (more l seat fr un la).getD j s0 = l.getD j s0 := by
  simp [more, List.getD_eq_getElem?_getD, List.getElem?_append, show j < l.length by omega]
theorem more_new (h : l.length = i) : (more l seat fr un la).getD i s0 = (seat, fr, un, la) := by
  simp [more, List.getD_eq_getElem?_getD, ← h]
theorem Lives.more (h : Lives seat i at_ l) (h1 : at_ < fr) (h2 : fr < un) (h3 : 0 ≤ at_) : Lives seat (i + 1) un (more l seat fr un la) := by
  refine ⟨by simp [Pure.more, h.len], fun j hj => ?_, fun _ => ?_⟩
  · rcases Nat.lt_or_ge j i with c | c
    · rw [more_old h.len j c]
      have := h.all j c
      exact ⟨this.1, by omega⟩
    · obtain rfl : j = i := by omega
      rw [more_new h.len]
      exact ⟨rfl, by dsimp only; omega⟩
  · rw [Nat.add_sub_cancel, more_new h.len]
    exact ⟨rfl, by omega⟩
theorem moreIx (h : Lives seat i at_ l) (hk : at_ < k) : bk (began seat k) (more l seat fr un la) = if fr ≤ k then (i : Int) else (i : Int) - 1 := by
  unfold more
  rw [bk_app, h.len, h.begunIx hk]
  by_cases c : fr ≤ k
  · rw [if_pos c, if_pos (by simp [began, c])]
  · rw [if_neg c, if_neg (by simp [began, c])]
theorem how_more (h : Lives seat i at_ l) (h0 : 0 ≤ at_) (h1 : at_ < fr) (h2 : fr < un) (hk : at_ < k) :
    how (more l seat fr un la) seat k = (if k ≤ fr ∨ k > un then (if i = 0 ∧ k ≤ fr then 0 else 2) else 1, k == fr) := by
  have hlen := h.len
  unfold how
  rw [moreIx h hk]
  by_cases c : fr ≤ k
  · rw [if_pos c]
    simp only [Int.toNat_natCast, more_new h.len]
    rw [if_neg (by omega)]
    by_cases c1 : fr = k
    · subst c1
      have ht : (more l seat fr un la).take i = l := by simp [more, ← hlen]
      rw [if_pos rfl]
      simp only [ht, h.seatIx, beq_self_eq_true]
      rcases Nat.eq_zero_or_pos i with rfl | hp
      · rw [if_neg (by omega), if_pos (.inl (Int.le_refl _)), if_pos ⟨rfl, Int.le_refl _⟩]
      · rw [if_pos (by omega), if_pos (.inl (Int.le_refl _)), if_neg (by omega)]
    · have q : (k == fr) = false := by simp; omega
      rw [if_neg c1, q]
      by_cases c2 : k ≤ un
      · rw [if_pos (.inr c2), if_neg (by omega)]
      · rw [if_neg (by omega), if_pos (by omega), if_neg (by omega)]
  · have q : (k == fr) = false := by simp; omega
    rw [if_neg c, q]
    rcases Nat.eq_zero_or_pos i with rfl | hp
    · simp only [show (((0 : Nat) : Int) - 1) < 0 by omega, if_true]
      rw [if_pos (.inl (by omega)), if_pos ⟨trivial, by omega⟩]
    · have ha := h.all (i - 1) (by omega)
      have hb := h.last hp
      simp only [show ((i : Int) - 1).toNat = i - 1 by omega, more_old h.len _ (show i - 1 < i by omega)]
      rw [if_neg (by omega), if_neg (by omega), if_neg (by omega), if_pos (.inl (by omega)), if_neg (by omega)]
theorem counts_more (h : Lives seat i at_ l) (h0 : 0 ≤ at_) (h1 : at_ < fr) (h2 : fr < un) (hk : at_ < k) (h3 : la ≤ un) :
    ((how (more l seat fr un la) seat k).1 == 1 && (((more l seat fr un la).getD (bk (began seat k) (more l seat fr un la)).toNat s0).2.2.1 == 0 || decide (k ≤ ((more l seat fr un la).getD (bk (began seat k) (more l seat fr un la)).toNat s0).2.2.2))) = decide (fr < k ∧ k ≤ la) := by
  rw [how_more h h0 h1 h2 hk, moreIx h hk]
  dsimp only
  by_cases c : fr < k
  · rw [if_pos (show fr ≤ k by omega), Int.toNat_natCast, more_new h.len]
    have q : (un == 0) = false := by simp; omega
    by_cases c2 : k ≤ un
    · rw [if_neg (by omega)]
      simp [c, q]
    · rw [if_pos (.inr (by omega))]
      by_cases c3 : i = 0 ∧ k ≤ fr
      · omega
      · rw [if_neg c3]
        have : ¬ k ≤ la := by omega
        simp [this]
  · rw [if_pos (.inl (by omega))]
    by_cases c3 : i = 0 ∧ k ≤ fr
    · rw [if_pos c3]; simp [c]
    · rw [if_neg c3]; simp [c]
theorem TableLives (a0 : Int) (w0 : (Lit.int .i64 a0).wf = true) (a1 : List Int) (w1 : Ty.good (.row (.int .i64)) a1) (z1 : a1.length * 8 ≤ 140737488351232) : f9 a0 a1 = some (true, ()) := by
  unfold f9
  have b := within_b a0 3 (by decide)
  rw [known_eq, within_eq _ _ (by decide) (by decide)]
  simp only [Option.bind_some, Bool.not_true, cond_false, bif_dec]
  rw [wr (by omega)]
  generalize hseat : 1 + within a0 3 = seat
  have s1 : 1 ≤ seat := by omega
  have s3 : seat ≤ 3 := by omega
  refine OK.eq ?_
  refine OK.callR (R := fun y => ∃ l : List S, (l.length = a1.length ∧ a1.length ≤ 8 ∨ l.length = 8 ∧ 8 ≤ a1.length) ∧ y = Sum.inl (a1, l, ())) ?_ ?_
  · refine OK.loop (fun j : Nat × Nat × List S => (seat, a1, (j.2.1 : Int), (j.1 : Int), j.2.2, ())) (fun j => j.1 ≤ 8 ∧ j.1 ≤ a1.length ∧ j.2.1 ≤ 50 * j.1 ∧ Lives seat j.1 j.2.1 j.2.2) (fun j => 8 - j.1) (fun rec j hj ih => ?_) (0, 0, []) rfl ⟨by decide, Nat.zero_le _, by decide, rfl, fun j hj => by omega, fun h => by omega⟩ (by decide)
    obtain ⟨i, at_, l⟩ := j
    obtain ⟨hi, hia, hat, hL⟩ := hj
    dsimp only at hi hia hat hL
    have hlen := hL.len
    simp only
    by_cases c1 : (i : Int) < a1.length
    · by_cases c2 : (i : Int) < 8
      · rw [if_pos c1, if_pos c2, inR (by omega)]
        simp only [cond_true]
        generalize a1.getD (i : Int).toNat 0 = st
        generalize IntKind.wrap .i64 (Int.tdiv st 20) = st2
        generalize IntKind.wrap .i64 (Int.tdiv st 400) = st3
        have d1 := within_b st 20 (by decide)
        have d2 := within_b st2 20 (by decide)
        rw [within_eq _ _ (by decide) (by decide)]
        simp only [Option.bind_some]
        rw [within_eq _ _ (by decide) (by decide)]
        simp only [Option.bind_some]
        generalize hfr : (at_ : Int) + 1 + within st 20 = fr
        have f1 : (at_ : Int) < fr := by omega
        have f2 : fr ≤ at_ + 20 := by omega
        simp only [wr (show -9223372036854775808 ≤ (at_ : Int) + 1 ∧ (at_ : Int) + 1 ≤ 9223372036854775807 by omega), hfr, wr (show -9223372036854775808 ≤ fr ∧ fr ≤ 9223372036854775807 by omega), wr (show -9223372036854775808 ≤ fr + 1 ∧ fr + 1 ≤ 9223372036854775807 by omega)]
        generalize hun : fr + 1 + within st2 20 = un
        have u1 : fr < un := by omega
        have u2 : un ≤ fr + 20 := by omega
        simp only [wr (show -9223372036854775808 ≤ un ∧ un ≤ 9223372036854775807 by omega), wr (show -9223372036854775808 ≤ un - fr ∧ un - fr ≤ 9223372036854775807 by omega), wr (show -9223372036854775808 ≤ un - fr + 1 ∧ un - fr + 1 ≤ 9223372036854775807 by omega)]
        have d3 := within_b st3 (un - fr + 1) (by omega)
        rw [within_eq _ _ (by omega) (by omega)]
        simp only [Option.bind_some]
        generalize hla : fr + within st3 (un - fr + 1) = la
        have l1 : fr ≤ la := by omega
        have l2 : la ≤ un := by omega
        simp only [wr (show -9223372036854775808 ≤ la ∧ la ≤ 9223372036854775807 by omega)]
        -- the first seat is open
        have hopen : opens l at_ 1 = true := by
          unfold opens
          by_cases e : seat = 1
          · subst e
            rw [hL.seatIx]
            rcases Nat.eq_zero_or_pos i with rfl | hp
            · rfl
            · have := hL.last hp
              rw [show ((i : Int) - 1).toNat = i - 1 by omega, this.1]
              simp; omega
          · have : bk (ofSeat 1) l = -1 := by
              have hno : ∀ k, k ≤ i → bk (ofSeat 1) (l.take k) = -1 := by
                intro k
                induction k with
                | zero => intro _; rfl
                | succ k ihk =>
                  intro hk
                  rw [take_last l k (by omega), bk_app, if_neg (by show ¬ (_ == _) = true; rw [(hL.all k (by omega)).1]; simpa using e), ihk (by omega)]
              rw [← List.take_of_length_le (l := l) (i := i) (by omega)]
              exact hno i (Nat.le_refl _)
            rw [this]; rfl
        rw [open_eq _ _ (by omega), if_pos hopen]
        simp only [Option.bind_some]
        rw [if_neg (by decide)]
        have hadd : f28 l 2 0 seat fr 0 = some (0, more l seat fr 0 0, ()) := add_seat _ _ _ _ _ (by omega) (by omega) (by omega) (by omega) (by
          rw [hL.seatIx]
          rcases Nat.eq_zero_or_pos i with rfl | hp
          · exact .inl (by omega)
          · have := hL.last hp
            rw [show ((i : Int) - 1).toNat = i - 1 by omega, this.1]
            exact .inr (by omega))
        rw [hadd]
        simp only [Option.bind_some]
        have hm : (more l seat fr 0 0).length = i + 1 := by simp [more, hlen]
        have hret : f28 (more l seat fr 0 0) 3 0 seat un la = some (0, more l seat fr un la, ()) := by
          rw [add_retire _ _ _ _ _ i (by omega) (by omega) (by omega) (by omega) (by unfold more; rw [bk_app, if_pos (by simp [ofSeat]), hlen]) (by rw [more_new hlen]) (by rw [more_new hlen]; exact u1) (by rw [more_new hlen]; exact l1) (by omega), more_new hlen]
          simp only [more, ← hlen, List.set_append_right _ _ (Nat.le_refl _), Nat.sub_self, List.set_cons_zero]
        rw [hret]
        simp only [Option.bind_some, bne_self_eq_false, cond_false]
        have hN : (more l seat fr un la).length ≤ 1000000 := by simp [more]; omega
        refine OK.loop (fun j : Nat => (seat, a1, (at_ : Int), (i : Int), fr, un, la, (at_ : Int) + (j : Int), (i : Int), decide ((i : Int) < 8), 0, false, more l seat fr un la, ())) (fun j => (j : Int) ≤ un + 4 - at_) (fun j => (un + 5 - at_ - j).toNat) (fun rec2 j hj ih2 => ?_) 0 (by simp) (by omega) (by omega)
        simp only
        rw [wr (show -9223372036854775808 ≤ un + 3 ∧ _ by omega)]
        by_cases c3 : (at_ : Int) + j ≤ un + 3
        · rw [if_pos c3, how_eq _ _ _ hN]
          simp only [Option.bind_some]
          have next : OK (rec2 (seat, a1, (at_ : Int), (i : Int), fr, un, la, (at_ : Int) + (j : Int) + 1, (i : Int), decide ((i : Int) < 8), 0, false, more l seat fr un la, ())) fun y => ∃ l : List S, (l.length = a1.length ∧ a1.length ≤ 8 ∨ l.length = 8 ∧ 8 ≤ a1.length) ∧ y = Sum.inl (a1, l, ()) :=
            ih2 (j + 1) (by omega) (by omega) _ (by simp; omega)
          generalize hk : (at_ : Int) + (j : Int) = k at *
          refine OK.callR (R := fun y => y = Sum.inl (seat, a1, (at_ : Int), (i : Int), fr, un, la, k, (how (more l seat fr un la) seat k).1, (how (more l seat fr un la) seat k).2, (if k ≤ fr ∨ k > un then (if i = 0 ∧ k ≤ fr then 0 else 2) else 1), (i : Int), decide ((i : Int) < 8), 0, false, more l seat fr un la, ())) ?_ ?_
          · have hz : ((i : Int) == 0) = decide (i = 0) := by
              rcases Nat.eq_zero_or_pos i with rfl | hp
              · rfl
              · rw [decide_eq_false (by omega)]; simp; omega
            rw [hz, bif_dec]
            by_cases e1 : k ≤ fr
            · rw [if_pos e1]
              by_cases e2 : i = 0
              · refine OK.ret ?_ |> fun h => by simpa [e1, e2] using h
                simp [e1, e2]
              · simp [e1, e2, OK.iff]
            · rw [if_neg e1]
              by_cases e3 : k > un
              · by_cases e2 : i = 0
                · simp [e1, e2, e3, OK.iff]
                · simp [e1, e2, e3, OK.iff]
              · have : ¬ (un < k) := by omega
                simp [e1, e3, this, OK.iff]
          · rintro _ rfl
            simp only [Sum.elim_inl]
            rw [counts_eq _ _ _ hN, wr (show -9223372036854775808 ≤ k + 1 ∧ _ by omega)]
            by_cases c4 : k > at_
            · rw [if_pos c4, how_more hL (by omega) f1 u1 (by omega)]
              simp only [bne_self_eq_false, cond_false, beq_self_eq_true, Bool.not_true, Option.bind_some]
              have hc := counts_more (la := la) hL (by omega) f1 u1 (show (at_ : Int) < k by omega) l2
              rw [how_more hL (by omega) f1 u1 (by omega)] at hc
              simp only at hc
              rw [hc]
              by_cases c5 : k > fr
              · rw [if_pos c5]
                have : decide (fr < k ∧ k ≤ la) = decide (k ≤ la) := by simp [show fr < k by omega]
                rw [this]
                simp only [beq_self_eq_true, Bool.not_true, cond_false]
                exact next
              · rw [if_neg c5]
                have : decide (fr < k ∧ k ≤ la) = false := by simp; omega
                rw [this]
                exact next
            · rw [if_neg c4]
              exact next
        · rw [if_neg c3, wr (by omega)]
          obtain ⟨un', rfl⟩ := Int.eq_ofNat_of_zero_le (show 0 ≤ un by omega)
          exact ih (i + 1, un', more l seat fr un' la) ⟨by dsimp only; omega, by dsimp only; omega, by dsimp only; omega, hL.more f1 u1 (by omega)⟩ (by dsimp only; omega) _ (by simp)
      · rw [if_pos c1, if_neg c2]; exact OK.ret ⟨l, .inr (by omega), rfl⟩
    · rw [if_neg c1]; exact OK.ret ⟨l, .inl (by omega), rfl⟩
  · rintro _ ⟨l, hl, rfl⟩
    simp only [Sum.elim_inl, minI_eq]
    by_cases h0 : a1.length = 0
    · simp [h0, OK.iff]
    · have q : ((a1.length : Int) == 0) = false := by simp; exact fun h => h0 (by rw [h]; rfl)
      rw [q, cond_false]
      refine OK.ret ?_
      simp only [Prod.mk.injEq, and_true, beq_iff_eq]
      omega
end Go.Proofs.Ytamedfccknfeaaa.Pure

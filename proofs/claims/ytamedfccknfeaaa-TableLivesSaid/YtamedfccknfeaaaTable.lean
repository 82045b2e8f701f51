/- What the functions of table compute (own work). -/
import Derived.Test.YtamedfccknfeaaaRun
import Derived.Test.YtamedfccknfeaaaPc
namespace Go.Proofs.Ytamedfccknfeaaa.Table
open Go Go.Proofs.Ytamedfccknfeaaa.Mx Go.Proofs.Ytamedfccknfeaaa.Pc Go.Proofs.Ytamedfccknfeaaa.Run
set_option autoImplicit false
set_option linter.unusedVariables false
set_option linter.unusedSimpArgs false
/-- A span: whose, from which frame on, until which, the last that counts. -/
abbrev S := Int × Int × Int × Int
def s0 : S := (0, 0, 0, 0)
theorem fold0 : ((0, 0, 0, 0) : S) = s0 := rfl
/-- Where the last one is of which p says yes. -/
def bkR (p : S → Bool) : List S → Int
  | [] => -1
  | x :: r => if p x = true then (r.length : Int) else bkR p r
def bk (p : S → Bool) (l : List S) : Int := bkR p l.reverse
theorem bk_nil (p : S → Bool) : bk p [] = -1 := rfl
theorem bk_app (p : S → Bool) (l : List S) (x : S) : bk p (l ++ [x]) = if p x = true then (l.length : Int) else bk p l := by
  simp [bk, bkR]
theorem bk_range (p : S → Bool) (l : List S) : -1 ≤ bk p l ∧ bk p l < l.length := by
  have : ∀ l : List S, -1 ≤ bkR p l ∧ bkR p l < l.length := by
    intro l
    induction l with
    | nil => simp [bkR]
    | cons x r ih =>
      unfold bkR
      rw [List.length_cons]
      split <;> omega
  simpa [bk] using this l.reverse
theorem take_last (l : List S) (k : Nat) (h : k < l.length) : l.take (k + 1) = l.take k ++ [l.getD k s0] := by
  rw [List.take_succ_eq_append_getElem h]
  simp [List.getD_eq_getElem?_getD, h]
/-- Is it the seat's? -/
def ofSeat (seat : Int) (s : S) : Bool := s.1 == seat
theorem find_last (l : List S) (seat : Int) (h : l.length ≤ 1000000) : f40 l seat = some (bk (ofSeat seat) l, ()) := by
  refine OK.eq ?_
  unfold f40
  rw [wr (by omega)]
  refine OK.loop (fun k : Nat => (l, seat, (k : Int) - 1, ())) (fun k => k ≤ l.length ∧ bk (ofSeat seat) (l.take k) = bk (ofSeat seat) l) (fun k => k) (fun rec k hk ih => ?_) l.length rfl ⟨Nat.le_refl _, by rw [List.take_length]⟩ (by omega)
  simp only [bif_dec]
  cases k with
  | zero =>
    rw [if_neg (by omega)]
    refine OK.ret ?_
    rw [← hk.2, List.take_zero, bk_nil]
  | succ k =>
    have hkl : k < l.length := by omega
    have hb := hk.2
    rw [take_last l k hkl, bk_app, List.length_take, Nat.min_eq_left (by omega)] at hb
    rw [if_pos (by omega), inR (by omega), show (((k + 1 : Nat) : Int) - 1).toNat = k by omega, fold0]
    unfold f43
    simp only [cond_true, Option.bind_some]
    unfold ofSeat at hb ⊢
    cases c1 : ((l.getD k s0).1 == seat) with
    | false =>
      rw [c1, if_neg (by decide)] at hb
      rw [cond_false, wr (by omega)]
      exact ih k ⟨by omega, hb⟩ (by omega) _ (by simp)
    | true =>
      rw [c1, if_pos rfl] at hb
      exact OK.ret (by rw [← hb]; simp)
theorem last_eq (l : List S) (seat : Int) (h : l.length ≤ 1000000) : f39 l seat = some (bk (ofSeat seat) l, ()) := by
  unfold f39
  rw [find_last l seat h]
  rfl
/-- Is it the seat's, and has it began? -/
def began (seat frame : Int) (s : S) : Bool := s.1 == seat && decide (s.2.1 ≤ frame)
theorem find_how (l : List S) (seat frame : Int) (h : l.length ≤ 1000000) : f40_1 l seat frame = some (bk (began seat frame) l, frame, ()) := by
  refine OK.eq ?_
  unfold f40_1
  rw [wr (by omega)]
  refine OK.loop (fun k : Nat => (l, seat, (k : Int) - 1, frame, ())) (fun k => k ≤ l.length ∧ bk (began seat frame) (l.take k) = bk (began seat frame) l) (fun k => k) (fun rec k hk ih => ?_) l.length rfl ⟨Nat.le_refl _, by rw [List.take_length]⟩ (by omega)
  simp only [bif_dec]
  cases k with
  | zero =>
    rw [if_neg (by omega)]
    refine OK.ret ?_
    rw [← hk.2, List.take_zero, bk_nil]
  | succ k =>
    have hkl : k < l.length := by omega
    have hb := hk.2
    rw [take_last l k hkl, bk_app, List.length_take, Nat.min_eq_left (by omega)] at hb
    rw [if_pos (by omega), inR (by omega), show (((k + 1 : Nat) : Int) - 1).toNat = k by omega, fold0]
    unfold f41
    simp only [cond_true, Option.bind_some]
    unfold began at hb ⊢
    cases c1 : ((l.getD k s0).1 == seat) with
    | false =>
      rw [c1, Bool.false_and, if_neg (by decide)] at hb
      rw [cond_false, wr (by omega)]
      exact ih k ⟨by omega, hb⟩ (by omega) _ (by simp)
    | true =>
      rw [c1, Bool.true_and] at hb
      rw [cond_true, bif_dec]
      by_cases c : (l.getD k s0).2.1 ≤ frame
      · rw [if_pos (by simpa using c)] at hb
        rw [if_pos c]
        exact OK.ret (by rw [← hb]; simp)
      · rw [if_neg (by simpa using c)] at hb
        rw [if_neg c, wr (by omega)]
        exact ih k ⟨by omega, hb⟩ (by omega) _ (by simp)
theorem find_counts (l : List S) (seat frame : Int) (h : l.length ≤ 1000000) : f40_2 l seat frame = some (bk (began seat frame) l, frame, ()) := by
  rw [← find_how l seat frame h]
  unfold f40_2 f40_1 f42 f41
  rfl
/-- How a seat is played at a frame. -/
def how (l : List S) (seat frame : Int) : Int × Bool :=
  let i := bk (began seat frame) l
  if i < 0 then (0, false)
  else if (l.getD i.toNat s0).2.1 = frame then (if bk (ofSeat seat) (l.take i.toNat) ≥ 0 then (2, true) else (0, true))
  else if (l.getD i.toNat s0).2.2.1 = 0 ∨ frame ≤ (l.getD i.toNat s0).2.2.1 then (1, false) else (2, false)
theorem how_eq (l : List S) (seat frame : Int) (h : l.length ≤ 1000000) : f30 l seat frame = some ((how l seat frame).1, (how l seat frame).2, ()) := by
  unfold f30 how
  rw [find_how _ _ _ h]
  have hr := bk_range (began seat frame) l
  generalize bk (began seat frame) l = i at *
  simp only [Option.bind_some, bif_dec]
  by_cases c1 : i < 0
  · simp [c1]
  rw [if_neg c1, if_neg c1, inR (by omega), fold0]
  simp only [cond_true]
  by_cases c2 : (l.getD i.toNat s0).2.1 = frame
  · have q : ((l.getD i.toNat s0).2.1 == frame) = true := by simpa using c2
    rw [if_pos c2, q, cond_true, if_pos (by omega), last_eq _ _ (by simp; omega)]
    simp only [Option.bind_some, Int.toNat_zero, List.drop_zero]
    by_cases c3 : bk (ofSeat seat) (l.take i.toNat) ≥ 0
    · simp only [if_pos c3]; rfl
    · simp only [if_neg c3]; rfl
  · have q : ((l.getD i.toNat s0).2.1 == frame) = false := by simpa using c2
    rw [if_neg c2, q, cond_false]
    generalize l.getD i.toNat s0 = s at *
    by_cases c3 : s.2.2.1 = 0
    · simp [c3]
    · by_cases c4 : frame ≤ s.2.2.1
      · have q3 : (s.2.2.1 == 0) = false := by simpa using c3
        simp [q3, c3, c4]
      · have q3 : (s.2.2.1 == 0) = false := by simpa using c3
        simp [q3, c3, c4]
theorem counts_eq (l : List S) (seat frame : Int) (h : l.length ≤ 1000000) :
    f31 l seat frame = some ((how l seat frame).1 == 1 && ((l.getD (bk (began seat frame) l).toNat s0).2.2.1 == 0 || decide (frame ≤ (l.getD (bk (began seat frame) l).toNat s0).2.2.2)), ()) := by
  unfold f31
  rw [how_eq _ _ _ h, find_counts _ _ _ h]
  simp only [Option.bind_some]
  cases c : ((how l seat frame).1 == 1) with
  | false => rfl
  | true =>
    have hr := bk_range (began seat frame) l
    have hi : 0 ≤ bk (began seat frame) l := by
      unfold how at c
      by_cases c1 : bk (began seat frame) l < 0
      · simp [c1] at c
      · omega
    rw [inR (by omega), fold0]
    generalize l.getD (bk (began seat frame) l).toNat s0 = s
    simp only [cond_true, Bool.true_and]
    cases (s.2.2.1 == 0) <;> rfl
/-- May a seat be taken? -/
def opens (l : List S) (frame seat : Int) : Bool := decide (bk (ofSeat seat) l < 0) || ((l.getD (bk (ofSeat seat) l).toNat s0).2.2.1 != 0 && decide ((l.getD (bk (ofSeat seat) l).toNat s0).2.2.1 ≤ frame))
theorem open_eq (l : List S) (frame : Int) (h : l.length ≤ 1000000) : f29 l frame = some (if opens l frame 1 = true then 1 else if opens l frame 2 = true then 2 else if opens l frame 3 = true then 3 else -1, ()) := by
  unfold f29
  refine (it_find (fun k => k != 0 && opens l frame (k : Int)) 4 (fun k => (l, frame, (k : Int), ())) (fun k => some ((k : Int), ())) (some (-1, ())) (fun rec k hk => ?_) (by decide) rfl).trans ?_
  · simp only [bif_dec]
    by_cases c : k < 4
    · rw [if_pos (by omega), if_pos c, last_eq _ _ h, wr (by omega)]
      have hr := bk_range (ofSeat k) l
      unfold opens
      generalize bk (ofSeat (k : Int)) l = i at *
      simp only [Option.bind_some]
      by_cases c1 : k = 0
      · subst c1
        simp
      · rw [if_pos (by omega)]
        by_cases c2 : i < 0
        · rw [if_pos c2, if_pos (by simp [c1, c2])]
        · rw [if_neg c2, inR (by omega), fold0]
          generalize l.getD i.toNat s0 = s
          simp only [cond_true]
          by_cases c3 : s.2.2.1 = 0
          · simp [c2, c3]
          · have q : (s.2.2.1 != 0) = true := by simpa using c3
            rw [q, cond_true]
            by_cases c4 : s.2.2.1 ≤ frame
            · rw [if_pos c4, if_pos (by simp [c1, c4])]
            · rw [if_neg c4, if_neg (by simp [c2, c4])]
              rfl
    · rw [if_neg (by omega), if_neg c]
  · rw [show List.range 4 = [0, 1, 2, 3] from rfl]
    simp only [List.find?_cons]
    cases opens l frame 1 <;> cases opens l frame 2 <;> cases opens l frame 3 <;> simp_all
theorem clone_spans (l : List S) (h : l.length ≤ 1000000) : f38 l = some (l, ()) := by
  unfold f38 cloneF
  rw [decide_eq_true (by simp [limit]; omega)]
  rfl
/-- A seat that is taken. -/
theorem add_seat (l : List S) (seat frame inp lst : Int) (h : l.length ≤ 1000000) (h0 : 0 ≤ seat) (h4 : seat < 4) (hf : 1 ≤ frame) (ho : bk (ofSeat seat) l < 0 ∨ ((l.getD (bk (ofSeat seat) l).toNat s0).2.2.1 ≠ 0 ∧ (l.getD (bk (ofSeat seat) l).toNat s0).2.2.1 < frame)) :
    f28 l 2 inp seat frame lst = some (0, l ++ [(seat, frame, 0, 0)], ()) := by
  unfold f28
  simp only [bne_self_eq_false, cond_false, Option.bind_some, Sum.elim_inl, bif_dec, beq_self_eq_true, cond_true]
  rw [if_neg (by omega), if_neg (by omega), if_neg (by omega), clone_spans _ h, last_eq _ _ h]
  have hr := bk_range (ofSeat seat) l
  generalize bk (ofSeat seat) l = i at *
  simp only [Option.bind_some, fold0]
  by_cases c : i < 0
  · rw [if_neg (by omega)]
    simp only [Option.bind_some, Sum.elim_inl]
    rw [if_pos (by simp [limit]; omega)]
  · have ho := ho.resolve_left c
    have q : ((l.getD i.toNat s0).2.2.1 == 0) = false := by simpa using ho.1
    rw [if_pos (by omega), inR (by omega), q]
    have q2 : ¬ (l.getD i.toNat s0).2.2.1 ≥ frame := by omega
    have q3 : l.length + [((seat, frame, 0, 0) : S)].length ≤ limit 32 := by simp [limit]; omega
    simp only [cond_true, cond_false, q2, if_false, Option.bind_some, Sum.elim_inl]
    exact if_pos q3
/-- A seat that is given up. -/
theorem add_retire (l : List S) (seat frame inp lst : Int) (i : Nat) (h : l.length ≤ 1000000) (h0 : 0 < seat) (h4 : seat < 4) (hf : 1 ≤ frame) (hi : bk (ofSeat seat) l = i) (hu : (l.getD i s0).2.2.1 = 0) (hg : (l.getD i s0).2.1 < frame) (hl : (l.getD i s0).2.1 ≤ lst) (hm : lst ≤ frame) :
    f28 l 3 inp seat frame lst = some (0, l.set i ((l.getD i s0).1, (l.getD i s0).2.1, frame, lst), ()) := by
  have hr := bk_range (ofSeat seat) l
  unfold f28
  simp only [bne_self_eq_false, cond_false, Option.bind_some, Sum.elim_inl, bif_dec, beq_self_eq_true, cond_true, show ((3 : Int) != 2) = true from rfl, show ((3 : Int) == 2) = false from rfl]
  rw [if_neg (by omega), if_neg (by omega), if_neg (by omega), clone_spans _ h, last_eq _ _ h, hi]
  have q : (seat == 0) = false := by simp; omega
  have hil : i < l.length := by omega
  simp only [Option.bind_some, fold0, q, cond_false, Int.toNat_natCast, hu, bne_self_eq_false]
  rw [if_neg (by omega), inR (by omega)]
  simp only [cond_true, Option.bind_some, Sum.elim_inl, List.length_set, bif_dec, Int.toNat_natCast]
  have q1 : ¬ (l.getD i s0).2.1 ≥ frame := by omega
  have q2 : ¬ lst < (l.getD i s0).2.1 := by omega
  have q3 : ¬ lst > frame := by omega
  have q4 : inRange (i : Int) l.length = true := inR (by omega)
  simp only [q1, q2, q3, q4, decide_false, if_false, cond_false, cond_true, getD_set, List.set_set, hil, and_self, if_true]
theorem within_eq (a n : Int) (h : 0 < n) (hn : n ≤ 1000000000000) : f27 a n = some (within a n, ()) := by
  have := within_b a n h
  unfold f27 within
  simp only [Option.bind_some, bif_dec]
  rw [if_neg (by omega)]
  split
  · rw [wr (by omega)]; rfl
  · rfl
theorem known_eq : f26 = some (true, ()) := by
  unfold f26
  rw [add_seat [] 1 5 0 0 (by decide) (by decide) (by decide) (by decide) (.inl (by decide))]
  simp only [Option.bind_some]
  rw [how_eq _ _ _ (by decide), how_eq _ _ _ (by decide)]
  rfl
end Go.Proofs.Ytamedfccknfeaaa.Table

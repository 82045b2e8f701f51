/- By a program of this session's own, over the translation and the contracts by hand: each function's answers as a Lean function, and that the code comes to them. -/
import Derived.Test.YtkdbglmkpkliaaaQ0
import Derived.Test.YtkdbglmkpkliaaaQ1
namespace Go.Proofs.Ytkdbglmkpkliaaa.Q
open Go.RowKit Go.Proofs.YtkdbglmkpkliaaaW.PrintWords Go.Proofs.YtkdbglmkpkliaaaW.PrintLast Go.Proofs.YtkdbglmkpkliaaaW.PrintMore
attribute [local go_sem] max2_int min2_int max_two min_two max_three min_three max_four min_four   -- for this text's walks alone
set_option linter.unusedVariables false
set_option linter.unusedSimpArgs false

/-! ### aditref1_Turn: function 20 -/
mutual
def aditref1_Turn.j0 : Nat → Int → Int → Int → Option (Int × Int)
  | 0, _, _, _ => none
  | k + 1, x0, x1, x8 => aditref1_Turn.l0 k x0 x1 x8
def aditref1_Turn.l0 : Nat → Int → Int → Int → Option (Int × Int)
  | 0, _, _, _ => none
  | k + 1, x0, x1, x8 => if x8 > 0 then (aditref1_Turn.l0 k (wrap64 (-x1)) x0 (wrap64 (x8 - 1))) else (some (x0, x1))
end
def aditref1_Turn.f (k : Nat) (a0 : Int) (a1 : Int) (a2 : Int) : Option (Int × Int) := if (Int.tmod a2 4) < 0 then (aditref1_Turn.j0 k a0 a1 (wrap64 ((Int.tmod a2 4) + 4))) else (aditref1_Turn.j0 k a0 a1 (Int.tmod a2 4))
theorem aditref1_Turn.mono_l : ∀ k, (∀ y0 y1 y2, LeO (aditref1_Turn.j0 k y0 y1 y2) (aditref1_Turn.j0 (k + 1) y0 y1 y2)) ∧ (∀ y0 y1 y2, LeO (aditref1_Turn.l0 k y0 y1 y2) (aditref1_Turn.l0 (k + 1) y0 y1 y2))
  | 0 => ⟨fun _ _ _ r h => by simp [aditref1_Turn.j0] at h, fun _ _ _ r h => by simp [aditref1_Turn.l0] at h⟩
  | k + 1 => by
    obtain ⟨ih0, ih1⟩ := aditref1_Turn.mono_l k
    refine ⟨?_, ?_⟩
    · intro y0 y1 y2
      unfold aditref1_Turn.j0
      repeat' first
      | (with_reducible exact ih0 _ _ _)
      | (with_reducible exact ih1 _ _ _)
      | (with_reducible exact LeO.refl _)
      | (with_reducible exact LeO.none _)
      | (with_reducible refine LeO.ite ?_ ?_)
      | (with_reducible refine LeO.bind ?_ (fun _ => ?_))
      | exact ih0 _ _ _
      | exact ih1 _ _ _
      | exact LeO.none _
      | refine LeO.ite ?_ ?_
      | refine LeO.bind ?_ (fun _ => ?_)
    · intro y0 y1 y2
      unfold aditref1_Turn.l0
      repeat' first
      | (with_reducible exact ih0 _ _ _)
      | (with_reducible exact ih1 _ _ _)
      | (with_reducible exact LeO.refl _)
      | (with_reducible exact LeO.none _)
      | (with_reducible refine LeO.ite ?_ ?_)
      | (with_reducible refine LeO.bind ?_ (fun _ => ?_))
      | exact ih0 _ _ _
      | exact ih1 _ _ _
      | exact LeO.none _
      | refine LeO.ite ?_ ?_
      | refine LeO.bind ?_ (fun _ => ?_)
theorem aditref1_Turn.mono : ∀ a0 a1 a2 k, LeO (aditref1_Turn.f k a0 a1 a2) (aditref1_Turn.f (k + 1) a0 a1 a2) := by
  intro a0 a1 a2 k
  obtain ⟨ih0, ih1⟩ := aditref1_Turn.mono_l k
  unfold aditref1_Turn.f
  repeat' first
      | (with_reducible exact ih0 _ _ _)
      | (with_reducible exact ih1 _ _ _)
      | (with_reducible exact LeO.refl _)
      | (with_reducible exact LeO.none _)
      | (with_reducible refine LeO.ite ?_ ?_)
      | (with_reducible refine LeO.bind ?_ (fun _ => ?_))
      | exact ih0 _ _ _
      | exact ih1 _ _ _
      | exact LeO.none _
      | refine LeO.ite ?_ ?_
      | refine LeO.bind ?_ (fun _ => ?_)
set_option maxHeartbeats 8000000 in
set_option maxRecDepth 100000 in
theorem aditref1_Turn.calls (k : Nat) (a0 : Int) (a1 : Int) (a2 : Int) (r1 : Int) (r2 : Int) (w : World) (h : aditref1_Turn.f k a0 a1 a2 = some (r1, r2)) :
    Calls Try.prog 20 #[.int .i64 a0, .int .i64 a1, .int .i64 a2] w fun e w' => e = .returned (.tuple #[.int .i64 r1, .int .i64 r2]) ∧ Drawn0 w w' := by
  have H : (if (Int.tmod a2 4) < 0 then (aditref1_Turn.j0 k a0 a1 (wrap64 ((Int.tmod a2 4) + 4))) else (aditref1_Turn.j0 k a0 a1 (Int.tmod a2 4))) = some (r1, r2) := h
  clear h
  have HC4 := Aside0.mk H
  clear H
  go_enter Try.func20, Try.ntmps20
  go_upto_if 12 with (fail)
  go_cut [8] (fun v8 wc => ∃ (kq : Nat) (x8_3 : Int), v8 = .int .i64 x8_3 ∧ Aside0 (aditref1_Turn.j0 kq a0 a1 x8_3 = some (r1, r2)) ∧ Aside0 (kq ≤ k) ∧ Drawn0 w wc)
  case first =>
    have H := HC4.out
    clear HC4
    by_cases c5 : (Int.tmod a2 4) < 0
    · rw [if_pos c5] at H
      have c5b0 : decide ((Int.tmod a2 4) < 0) = true := decide_eq_true c5
      clear c5
      (first | rw [c5b0] | (simp only [i64_w, i32_w]; rw [c5b0]) | skip)
      have H' := Aside0.mk H
      clear H
      go_wp2
      go_meet
      case rel => exact ⟨_, (wrap64 ((Int.tmod a2 4) + 4)), (by first | rfl | (simp; done) | (simp [*]; done)), H', ⟨by first | omega | exact Nat.le_refl _⟩, by repeat (first | exact Drawn0.refl _ | apply Drawn0.step)⟩
    · rw [if_neg c5] at H
      have c5b0 : decide ((Int.tmod a2 4) < 0) = false := decide_eq_false c5
      clear c5
      (first | rw [c5b0] | (simp only [i64_w, i32_w]; rw [c5b0]) | skip)
      have H' := Aside0.mk H
      clear H
      go_wp2
      go_meet
      case rel => exact ⟨_, (Int.tmod a2 4), (by first | rfl | (simp; done) | (simp [*]; done)), H', ⟨by first | omega | exact Nat.le_refl _⟩, by repeat (first | exact Drawn0.refl _ | apply Drawn0.step)⟩
  case rest =>
    clear HC4
    try clear c2
    try clear p2
    try clear c5
    try clear c5b0
    obtain ⟨kq, x8_3, rfl, HA, HJ3, ⟨mc3, rfl⟩⟩ := hcut
    cases kq with
    | zero => exact absurd HA.out (by simp [aditref1_Turn.j0])
    | succ kj3 =>
      have H := HA.out
      clear HA
      simp only [aditref1_Turn.j0] at H
      have H' := Aside0.mk H
      clear H
      go_wp2
      go_loopg [0, 1, 8] kj3 (fun kq v0 v1 v8 w' => ∃ (x0_2 : Int) (x1_2 : Int) (x8_2 : Int), v0 = .int .i64 x0_2 ∧ v1 = .int .i64 x1_2 ∧ v8 = .int .i64 x8_2 ∧ Aside0 (aditref1_Turn.l0 kq x0_2 x1_2 x8_2 = some (r1, r2)) ∧ Aside0 (kq ≤ kj3) ∧ Drawn0 w w')
      case atStart => exact ⟨(a0), (a1), (x8_3), (by first | rfl | (simp; done) | (simp [*]; done)), (by first | rfl | (simp; done) | (simp [*]; done)), (by first | rfl | (simp; done) | (simp [*]; done)), H', ⟨Nat.le_refl _⟩, by repeat (first | exact Drawn0.refl _ | apply Drawn0.step)⟩
      case round =>
        clear H'
        try clear c2
        try clear p2
        try clear c3
        try clear c5
        try clear c5b0
        try clear p2
        obtain ⟨x0_2, x1_2, x8_2, rfl, rfl, rfl, HA, HK2, ⟨m2, rfl⟩⟩ := hrel
        cases gk with
        | zero => exact absurd HA.out (by simp [aditref1_Turn.l0])
        | succ k2 =>
          have H := HA.out
          clear HA
          simp only [aditref1_Turn.l0] at H
          by_cases c6 : x8_2 > 0
          · rw [if_pos c6] at H
            have c6b0 : decide (0 < x8_2) = true := decide_eq_true c6
            clear c6
            have H' := Aside0.mk H
            clear H
            go_wp2
            go_roundg k2
            case measure => have := HJ3.out; have := HK2.out; omega
            case rel => exact ⟨(wrap64 (-x1_2)), (x0_2), (wrap64 (x8_2 - 1)), (by first | rfl | (simp; done) | (simp [*]; done)), (by first | rfl | (simp; done) | (simp [*]; done)), (by first | rfl | (simp; done) | (simp [*]; done)), H', ⟨by have := HJ3.out; have := HK2.out; omega⟩, by repeat (first | exact Drawn0.refl _ | apply Drawn0.step)⟩
          · rw [if_neg c6] at H
            have c6b0 : decide (0 < x8_2) = false := decide_eq_false c6
            clear c6
            simp only [Option.some.injEq, Prod.mk.injEq] at H
            obtain ⟨rfl, rfl⟩ := H
            go_wp2
            go_ret2
            exact ⟨by first | rfl | (simp; done) | (simp [*]; done), by repeat (first | exact Drawn0.refl _ | apply Drawn0.step)⟩

/-! ### fix_Way (by hand) -/
def fix_Way.f (a0 : Int) : Option (Int × Int) := if a0 < 1 then some (0, 0) else if a0 > 4 then some (0, 0) else some (rot (qn (a0 - 1)) 0 (-1))
set_option maxHeartbeats 1000000 in
set_option maxRecDepth 100000 in
theorem fix_Way.calls (a0 : Int) (r1 : Int) (r2 : Int) (w : World) (h : fix_Way.f a0 = some (r1, r2)) :
    Calls Try.prog 21 #[.int .i64 a0] w fun e w' => e = .returned (.tuple #[.int .i64 r1, .int .i64 r2]) ∧ Drawn0 w w' := by
  unfold fix_Way.f at h
  by_cases h1 : a0 < 1
  · rw [if_pos h1] at h
    obtain ⟨rfl, rfl⟩ := Prod.mk.inj (Option.some.inj h)
    clear h
    go_enter Try.func21, Try.ntmps21
    go_wp2
    go_ret2
    exact ⟨rfl, Drawn0.refl _⟩
  · rw [if_neg h1] at h
    by_cases h2 : a0 > 4
    · rw [if_pos h2] at h
      obtain ⟨rfl, rfl⟩ := Prod.mk.inj (Option.some.inj h)
      clear h
      go_enter Try.func21, Try.ntmps21
      go_wp2
      go_ret2
      exact ⟨rfl, Drawn0.refl _⟩
    · rw [if_neg h2] at h
      obtain ⟨e1, e2⟩ := Prod.mk.inj (Option.some.inj h)
      obtain ⟨b1, b2⟩ := rot_bound (qn (a0 - 1)) 0 (-1) 9007199254740992 (by omega) (by omega)
      rw [e1] at b1
      rw [e2] at b2
      have HT := fun wx => fix_turned.walk _ _ 0 (-1) (a0 - 1) wx YtkdbglmkpkliaaaF.rep_zero YtkdbglmkpkliaaaF.rep_neg_one (by decide) (by decide)
      rw [e1, e2] at HT
      clear h e1 e2
      have HB := Lib.hid (And.intro b1 b2)
      clear b1 b2
      go_enter Try.func21, Try.ntmps21
      go_wp2_with (first | (go_at_call 31; ((with_reducible refine (HT _).mono ?_); rintro e w' ⟨⟨re, im, rfl, hre, him⟩, rfl⟩)) | (go_at_call 30; ((with_reducible refine (fix_plain.walk _ _ r1 r2 _ hre him (by have := HB.out.1; omega) (by have := HB.out.2; omega)).mono ?_); rintro e w' ⟨rfl, rfl⟩)))
      go_ret2
      exact ⟨rfl, Drawn0.refl _⟩

end Go.Proofs.Ytkdbglmkpkliaaa.Q

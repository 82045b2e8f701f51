/- By a program of this session's own, over the translation and the contracts by hand: each function's answers as a Lean function, and that the code comes to them. -/
import Derived.Test.YtjpcmpeigoikkaaQ0
import Derived.Test.YtjpcmpeigoikkaaQ7
namespace Go.Proofs.Ytjpcmpeigoikkaa.Q
open Go.RowKit Go.Proofs.YtjpcmpeigoikkaaW.PrintWords Go.Proofs.YtjpcmpeigoikkaaW.PrintLast Go.Proofs.YtjpcmpeigoikkaaW.PrintMore
attribute [local go_sem] max2_int min2_int max_two min_two max_three min_three max_four min_four   -- for this text's walks alone
set_option linter.unusedVariables false
set_option linter.unusedSimpArgs false

/-! ### aditref3_Field: function 18 -/
mutual
def aditref3_Field.l0 : Nat → List Int → List Bool → List Int → List Int → Int → Option (List Int)
  | 0, _, _, _, _, _ => none
  | k + 1, x0, x1, x2, x7, x8 => if x8 < 384 then (if 0 ≤ x8 then (if x8 < (x7.length : Int) then (aditref3_Field.l0 k x0 x1 x2 (x7.set (x8 : Int).toNat (-1)) (wrap64 (x8 + 1))) else (none)) else (none)) else (aditref3_Field.l1 k x0 x1 x2 x7 0)
def aditref3_Field.l1 : Nat → List Int → List Bool → List Int → List Int → Int → Option (List Int)
  | 0, _, _, _, _, _ => none
  | k + 1, x0, x1, x2, x7, x9 => if x9 < (x2.length : Int) then (if 0 ≤ x9 then (if (rd x2 x9) ≥ 0 then (if (rd x2 x9) < 384 then ((aditref3_At.f x0 (Int.tmod (rd x2 x9) 24) (wrap64 (Int.tdiv (rd x2 x9) 24))).bind fun t168 => ((aditref3_Walk.f t168).bind fun t169 => (if t169 = true then (if 0 ≤ (rd x2 x9) then (if (rd x2 x9) < (x7.length : Int) then (aditref3_Field.l1 k x0 x1 x2 (x7.set ((rd x2 x9) : Int).toNat 0) (wrap64 (x9 + 1))) else (none)) else (none)) else (aditref3_Field.l1 k x0 x1 x2 x7 (wrap64 (x9 + 1)))))) else (aditref3_Field.l1 k x0 x1 x2 x7 (wrap64 (x9 + 1)))) else (aditref3_Field.l1 k x0 x1 x2 x7 (wrap64 (x9 + 1)))) else (none)) else (aditref3_Field.l2 k x0 x1 x7 ([] : List Int) 0)
def aditref3_Field.l2 : Nat → List Int → List Bool → List Int → List Int → Int → Option (List Int)
  | 0, _, _, _, _, _ => none
  | k + 1, x0, x1, x7, x11, x12 => if x12 < 384 then (if 0 ≤ x12 then (if x12 < (x7.length : Int) then (if (rd x7 x12) = 0 then (if x11.length < 17592186044416 then (aditref3_Field.l2 k x0 x1 x7 (x11 ++ [x12]) (wrap64 (x12 + 1))) else (none)) else (aditref3_Field.l2 k x0 x1 x7 x11 (wrap64 (x12 + 1)))) else (none)) else (none)) else (aditref3_Field.l3 k x0 x1 x7 x11 0)
def aditref3_Field.l3 : Nat → List Int → List Bool → List Int → List Int → Int → Option (List Int)
  | 0, _, _, _, _, _ => none
  | k + 1, x0, x1, x7, x11, x13 => if x13 < (x11.length : Int) then (if 0 ≤ x13 then (aditref3_Field.l4 k x0 x1 x7 x11 x13 (rd x11 x13) 0) else (none)) else (some x7)
def aditref3_Field.l4 : Nat → List Int → List Bool → List Int → List Int → Int → Int → Int → Option (List Int)
  | 0, _, _, _, _, _, _, _ => none
  | k + 1, x0, x1, x7, x11, x13, x14, x15 => if x15 < 4 then (if x15 = 0 then (aditref3_Field.j5 k x0 x1 x7 x11 x13 x14 x15 (Int.tmod x14 24) (wrap64 ((wrap64 (Int.tdiv x14 24)) - 1))) else (if x15 = 1 then (aditref3_Field.j5 k x0 x1 x7 x11 x13 x14 x15 (wrap64 ((Int.tmod x14 24) + 1)) (wrap64 (Int.tdiv x14 24))) else (if x15 = 2 then (aditref3_Field.j5 k x0 x1 x7 x11 x13 x14 x15 (Int.tmod x14 24) (wrap64 ((wrap64 (Int.tdiv x14 24)) + 1))) else (if x15 = 3 then (aditref3_Field.j5 k x0 x1 x7 x11 x13 x14 x15 (wrap64 ((Int.tmod x14 24) - 1)) (wrap64 (Int.tdiv x14 24))) else (aditref3_Field.j5 k x0 x1 x7 x11 x13 x14 x15 (Int.tmod x14 24) (wrap64 (Int.tdiv x14 24))))))) else (aditref3_Field.l3 k x0 x1 x7 x11 (wrap64 (x13 + 1)))
def aditref3_Field.j5 : Nat → List Int → List Bool → List Int → List Int → Int → Int → Int → Int → Int → Option (List Int)
  | 0, _, _, _, _, _, _, _, _, _ => none
  | k + 1, x0, x1, x7, x11, x13, x14, x15, x16, x17 => (aditref3_In.f x16 x17).bind fun t176 => (if t176 = true then (if 0 ≤ (wrap64 ((wrap64 (x17 * 24)) + x16)) then (if (wrap64 ((wrap64 (x17 * 24)) + x16)) < (x7.length : Int) then (if (rd x7 (wrap64 ((wrap64 (x17 * 24)) + x16))) < 0 then ((aditref3_At.f x0 x16 x17).bind fun t178 => ((aditref3_Walk.f t178).bind fun t179 => (if t179 = true then (if (wrap64 ((wrap64 (x17 * 24)) + x16)) ≥ (x1.length : Int) then (if 0 ≤ x14 then (if x14 < (x7.length : Int) then (if x11.length < 17592186044416 then (aditref3_Field.l4 k x0 x1 (x7.set ((wrap64 ((wrap64 (x17 * 24)) + x16)) : Int).toNat (wrap64 ((rd x7 x14) + 1))) (x11 ++ [wrap64 ((wrap64 (x17 * 24)) + x16)]) x13 x14 (wrap64 (x15 + 1))) else (none)) else (none)) else (none)) else (if (wrap64 ((wrap64 (x17 * 24)) + x16)) < (x1.length : Int) then (if (rdOf false x1 (wrap64 ((wrap64 (x17 * 24)) + x16)) = true) then (aditref3_Field.l4 k x0 x1 x7 x11 x13 x14 (wrap64 (x15 + 1))) else (if 0 ≤ x14 then (if x14 < (x7.length : Int) then (if x11.length < 17592186044416 then (aditref3_Field.l4 k x0 x1 (x7.set ((wrap64 ((wrap64 (x17 * 24)) + x16)) : Int).toNat (wrap64 ((rd x7 x14) + 1))) (x11 ++ [wrap64 ((wrap64 (x17 * 24)) + x16)]) x13 x14 (wrap64 (x15 + 1))) else (none)) else (none)) else (none))) else (none))) else (aditref3_Field.l4 k x0 x1 x7 x11 x13 x14 (wrap64 (x15 + 1)))))) else (aditref3_Field.l4 k x0 x1 x7 x11 x13 x14 (wrap64 (x15 + 1)))) else (none)) else (none)) else (aditref3_Field.l4 k x0 x1 x7 x11 x13 x14 (wrap64 (x15 + 1))))
end
def aditref3_Field.f (k : Nat) (l0 : List Int) (l1 : List Bool) (l2 : List Int) : Option (List Int) := if 384 ≤ 35184372088832 then (aditref3_Field.l0 k l0 l1 l2 (List.replicate 384 0) 0) else (none)
theorem aditref3_Field.mono_l : ∀ k, (∀ y0 y1 y2 y3 y4, LeO (aditref3_Field.l0 k y0 y1 y2 y3 y4) (aditref3_Field.l0 (k + 1) y0 y1 y2 y3 y4)) ∧ (∀ y0 y1 y2 y3 y4, LeO (aditref3_Field.l1 k y0 y1 y2 y3 y4) (aditref3_Field.l1 (k + 1) y0 y1 y2 y3 y4)) ∧ (∀ y0 y1 y2 y3 y4, LeO (aditref3_Field.l2 k y0 y1 y2 y3 y4) (aditref3_Field.l2 (k + 1) y0 y1 y2 y3 y4)) ∧ (∀ y0 y1 y2 y3 y4, LeO (aditref3_Field.l3 k y0 y1 y2 y3 y4) (aditref3_Field.l3 (k + 1) y0 y1 y2 y3 y4)) ∧ (∀ y0 y1 y2 y3 y4 y5 y6, LeO (aditref3_Field.l4 k y0 y1 y2 y3 y4 y5 y6) (aditref3_Field.l4 (k + 1) y0 y1 y2 y3 y4 y5 y6)) ∧ (∀ y0 y1 y2 y3 y4 y5 y6 y7 y8, LeO (aditref3_Field.j5 k y0 y1 y2 y3 y4 y5 y6 y7 y8) (aditref3_Field.j5 (k + 1) y0 y1 y2 y3 y4 y5 y6 y7 y8))
  | 0 => ⟨fun _ _ _ _ _ r h => by simp [aditref3_Field.l0] at h, fun _ _ _ _ _ r h => by simp [aditref3_Field.l1] at h, fun _ _ _ _ _ r h => by simp [aditref3_Field.l2] at h, fun _ _ _ _ _ r h => by simp [aditref3_Field.l3] at h, fun _ _ _ _ _ _ _ r h => by simp [aditref3_Field.l4] at h, fun _ _ _ _ _ _ _ _ _ r h => by simp [aditref3_Field.j5] at h⟩
  | k + 1 => by
    obtain ⟨ih0, ih1, ih2, ih3, ih4, ih5⟩ := aditref3_Field.mono_l k
    refine ⟨?_, ?_, ?_, ?_, ?_, ?_⟩
    · intro y0 y1 y2 y3 y4
      unfold aditref3_Field.l0
      repeat' first
      | (with_reducible exact ih0 _ _ _ _ _)
      | (with_reducible exact ih1 _ _ _ _ _)
      | (with_reducible exact ih2 _ _ _ _ _)
      | (with_reducible exact ih3 _ _ _ _ _)
      | (with_reducible exact ih4 _ _ _ _ _ _ _)
      | (with_reducible exact ih5 _ _ _ _ _ _ _ _ _)
      | (with_reducible exact LeO.refl _)
      | (with_reducible exact LeO.none _)
      | (with_reducible refine LeO.ite ?_ ?_)
      | (with_reducible refine LeO.bind ?_ (fun _ => ?_))
      | exact ih0 _ _ _ _ _
      | exact ih1 _ _ _ _ _
      | exact ih2 _ _ _ _ _
      | exact ih3 _ _ _ _ _
      | exact ih4 _ _ _ _ _ _ _
      | exact ih5 _ _ _ _ _ _ _ _ _
      | exact LeO.none _
      | refine LeO.ite ?_ ?_
      | refine LeO.bind ?_ (fun _ => ?_)
    · intro y0 y1 y2 y3 y4
      unfold aditref3_Field.l1
      repeat' first
      | (with_reducible exact ih0 _ _ _ _ _)
      | (with_reducible exact ih1 _ _ _ _ _)
      | (with_reducible exact ih2 _ _ _ _ _)
      | (with_reducible exact ih3 _ _ _ _ _)
      | (with_reducible exact ih4 _ _ _ _ _ _ _)
      | (with_reducible exact ih5 _ _ _ _ _ _ _ _ _)
      | (with_reducible exact LeO.refl _)
      | (with_reducible exact LeO.none _)
      | (with_reducible refine LeO.ite ?_ ?_)
      | (with_reducible refine LeO.bind ?_ (fun _ => ?_))
      | exact ih0 _ _ _ _ _
      | exact ih1 _ _ _ _ _
      | exact ih2 _ _ _ _ _
      | exact ih3 _ _ _ _ _
      | exact ih4 _ _ _ _ _ _ _
      | exact ih5 _ _ _ _ _ _ _ _ _
      | exact LeO.none _
      | refine LeO.ite ?_ ?_
      | refine LeO.bind ?_ (fun _ => ?_)
    · intro y0 y1 y2 y3 y4
      unfold aditref3_Field.l2
      repeat' first
      | (with_reducible exact ih0 _ _ _ _ _)
      | (with_reducible exact ih1 _ _ _ _ _)
      | (with_reducible exact ih2 _ _ _ _ _)
      | (with_reducible exact ih3 _ _ _ _ _)
      | (with_reducible exact ih4 _ _ _ _ _ _ _)
      | (with_reducible exact ih5 _ _ _ _ _ _ _ _ _)
      | (with_reducible exact LeO.refl _)
      | (with_reducible exact LeO.none _)
      | (with_reducible refine LeO.ite ?_ ?_)
      | (with_reducible refine LeO.bind ?_ (fun _ => ?_))
      | exact ih0 _ _ _ _ _
      | exact ih1 _ _ _ _ _
      | exact ih2 _ _ _ _ _
      | exact ih3 _ _ _ _ _
      | exact ih4 _ _ _ _ _ _ _
      | exact ih5 _ _ _ _ _ _ _ _ _
      | exact LeO.none _
      | refine LeO.ite ?_ ?_
      | refine LeO.bind ?_ (fun _ => ?_)
    · intro y0 y1 y2 y3 y4
      unfold aditref3_Field.l3
      repeat' first
      | (with_reducible exact ih0 _ _ _ _ _)
      | (with_reducible exact ih1 _ _ _ _ _)
      | (with_reducible exact ih2 _ _ _ _ _)
      | (with_reducible exact ih3 _ _ _ _ _)
      | (with_reducible exact ih4 _ _ _ _ _ _ _)
      | (with_reducible exact ih5 _ _ _ _ _ _ _ _ _)
      | (with_reducible exact LeO.refl _)
      | (with_reducible exact LeO.none _)
      | (with_reducible refine LeO.ite ?_ ?_)
      | (with_reducible refine LeO.bind ?_ (fun _ => ?_))
      | exact ih0 _ _ _ _ _
      | exact ih1 _ _ _ _ _
      | exact ih2 _ _ _ _ _
      | exact ih3 _ _ _ _ _
      | exact ih4 _ _ _ _ _ _ _
      | exact ih5 _ _ _ _ _ _ _ _ _
      | exact LeO.none _
      | refine LeO.ite ?_ ?_
      | refine LeO.bind ?_ (fun _ => ?_)
    · intro y0 y1 y2 y3 y4 y5 y6
      unfold aditref3_Field.l4
      repeat' first
      | (with_reducible exact ih0 _ _ _ _ _)
      | (with_reducible exact ih1 _ _ _ _ _)
      | (with_reducible exact ih2 _ _ _ _ _)
      | (with_reducible exact ih3 _ _ _ _ _)
      | (with_reducible exact ih4 _ _ _ _ _ _ _)
      | (with_reducible exact ih5 _ _ _ _ _ _ _ _ _)
      | (with_reducible exact LeO.refl _)
      | (with_reducible exact LeO.none _)
      | (with_reducible refine LeO.ite ?_ ?_)
      | (with_reducible refine LeO.bind ?_ (fun _ => ?_))
      | exact ih0 _ _ _ _ _
      | exact ih1 _ _ _ _ _
      | exact ih2 _ _ _ _ _
      | exact ih3 _ _ _ _ _
      | exact ih4 _ _ _ _ _ _ _
      | exact ih5 _ _ _ _ _ _ _ _ _
      | exact LeO.none _
      | refine LeO.ite ?_ ?_
      | refine LeO.bind ?_ (fun _ => ?_)
    · intro y0 y1 y2 y3 y4 y5 y6 y7 y8
      unfold aditref3_Field.j5
      repeat' first
      | (with_reducible exact ih0 _ _ _ _ _)
      | (with_reducible exact ih1 _ _ _ _ _)
      | (with_reducible exact ih2 _ _ _ _ _)
      | (with_reducible exact ih3 _ _ _ _ _)
      | (with_reducible exact ih4 _ _ _ _ _ _ _)
      | (with_reducible exact ih5 _ _ _ _ _ _ _ _ _)
      | (with_reducible exact LeO.refl _)
      | (with_reducible exact LeO.none _)
      | (with_reducible refine LeO.ite ?_ ?_)
      | (with_reducible refine LeO.bind ?_ (fun _ => ?_))
      | exact ih0 _ _ _ _ _
      | exact ih1 _ _ _ _ _
      | exact ih2 _ _ _ _ _
      | exact ih3 _ _ _ _ _
      | exact ih4 _ _ _ _ _ _ _
      | exact ih5 _ _ _ _ _ _ _ _ _
      | exact LeO.none _
      | refine LeO.ite ?_ ?_
      | refine LeO.bind ?_ (fun _ => ?_)
theorem aditref3_Field.mono : ∀ a0 a1 a2 k, LeO (aditref3_Field.f k a0 a1 a2) (aditref3_Field.f (k + 1) a0 a1 a2) := by
  intro a0 a1 a2 k
  obtain ⟨ih0, ih1, ih2, ih3, ih4, ih5⟩ := aditref3_Field.mono_l k
  unfold aditref3_Field.f
  repeat' first
      | (with_reducible exact ih0 _ _ _ _ _)
      | (with_reducible exact ih1 _ _ _ _ _)
      | (with_reducible exact ih2 _ _ _ _ _)
      | (with_reducible exact ih3 _ _ _ _ _)
      | (with_reducible exact ih4 _ _ _ _ _ _ _)
      | (with_reducible exact ih5 _ _ _ _ _ _ _ _ _)
      | (with_reducible exact LeO.refl _)
      | (with_reducible exact LeO.none _)
      | (with_reducible refine LeO.ite ?_ ?_)
      | (with_reducible refine LeO.bind ?_ (fun _ => ?_))
      | exact ih0 _ _ _ _ _
      | exact ih1 _ _ _ _ _
      | exact ih2 _ _ _ _ _
      | exact ih3 _ _ _ _ _
      | exact ih4 _ _ _ _ _ _ _
      | exact ih5 _ _ _ _ _ _ _ _ _
      | exact LeO.none _
      | refine LeO.ite ?_ ?_
      | refine LeO.bind ?_ (fun _ => ?_)
set_option maxHeartbeats 8000000 in
set_option maxRecDepth 100000 in
theorem aditref3_Field.calls (k : Nat) (A0 : Option Addr) (c0 : Nat) (l0 : List Int) (A1 : Option Addr) (c1 : Nat) (l1 : List Bool) (A2 : Option Addr) (c2 : Nat) (l2 : List Int) (r : List Int) (w : World) (hr0 : Kd.C (Kd.int .u8) w A0 l0.length l0) (hc0 : l0.length ≤ c0) (hr1 : Kd.C Kd.bool w A1 l1.length l1) (hc1 : l1.length ≤ c1) (hr2 : Kd.C (Kd.int .i64) w A2 l2.length l2) (hc2 : l2.length ≤ c2) (h : aditref3_Field.f k l0 l1 l2 = some r) :
    Calls Try.prog 18 #[.slice A0 l0.length c0, .slice A1 l1.length c1, .slice A2 l2.length c2] w fun e w' => ∃ v0_ : Value, e = .returned (v0_) ∧ Kd.R (Kd.int .i64) 3 w' w.heap.size (fun _ => True) v0_ r ∧ Below w.heap.size w w' := by
  have HR0 := Aside0.mk hr0
  have HC0 := Aside0.mk hc0
  clear hr0 hc0
  have HR1 := Aside0.mk hr1
  have HC1 := Aside0.mk hc1
  clear hr1 hc1
  have HR2 := Aside0.mk hr2
  have HC2 := Aside0.mk hc2
  clear hr2 hc2
  have HB := Aside0.mk (Below.refl w.heap.size w)
  have H : (if 384 ≤ 35184372088832 then (aditref3_Field.l0 k l0 l1 l2 (List.replicate 384 0) 0) else (none)) = some r := h
  clear h
  by_cases c4 : 384 ≤ 35184372088832
  · rw [if_pos c4] at H
    have c4b0 := eq_true c4
    have c4b1 : decide (384 ≤ 35184372088832) = true := decide_eq_true c4
    clear c4
    obtain ⟨y163, hy163⟩ : ∃ y_ : List Int, y_ = (List.replicate 384 0) := ⟨_, rfl⟩
    replace H : (aditref3_Field.l0 k l0 l1 l2 y163 0) = some r := by first | (rw [hy163]; with_reducible exact H) | (have H2_ := (Option.bind_some _ _).symm.trans H; rw [hy163]; with_reducible exact H2_) | (have H2_ := (Option.bind_some _ _).symm.trans H; with_reducible exact H2_) | with_reducible exact H | (rw [hy163]; exact H) | exact H
    have Ny163 := Aside0.mk hy163
    clear hy163
    have H' := Aside0.mk H
    clear H
    go_enter Try.func18, Try.ntmps18
    go_wp2_with (first | ((with_reducible refine gate_dst (N := 19) rfl ?_); (try (refine gate_guard (by rfl) ?_; dsimp only)); refine Kd.R_make (Kd.int .i64) _ 3 rfl (N := 19) rfl 24 _ _ rfl 384 rfl rfl Try.underlying24 (.int .i64 0) 8 info3 rfl (by decide) (by omega) 0 (ok := fun _ => True) (okp := fun _ => True) rfl (fun _ hk => hk) trivial (by omega) (by omega) (Below.refl _ _) (Nat.le_refl _) ?_; intro v164 w5 ho6 hb hg_ hnew_; clear hg_ hnew_; (first | rw [← Ny163.out] at ho6 | (simp only [Int.reduceToNat] at ho6; rw [← Ny163.out] at ho6)); have n0_ := Aside0.mk (Kd.R_lower ho6 (below_size (by repeat (first | (with_reducible first | exact HB.out | apply below_alloc | apply pw_below_drewN | apply below_drew1) | exact HB.out)))); have n1_ := Aside0.mk (below_step (by repeat (first | (with_reducible first | exact HB.out | apply below_alloc | apply pw_below_drewN | apply below_drew1) | exact HB.out)) hb); clear HB; have HO165 := n0_; have HB := n1_; clear n0_ n1_; clear hb ho6))
    go_loopg [8] k (fun kq v8 w' => ∃ (x7_1 : List Int) (x8_1 : Int), v8 = .int .i64 x8_1 ∧ Aside0 (aditref3_Field.l0 kq l0 l1 l2 x7_1 x8_1 = some r) ∧ Aside0 (kq ≤ k) ∧ Aside0 (Kd.R (Kd.int .i64) 3 w' w.heap.size (fun _ => True) v164 x7_1) ∧ Aside0 (Below w.heap.size w w'))
    case atStart => exact ⟨(y163), (0), (by first | rfl | (simp; done) | (simp [*]; done)), H', ⟨Nat.le_refl _⟩, ⟨by (with_reducible repeat (first | apply Kd.R_alloc | apply Kd.R_drewN | apply Kd.R_drew)); exact HO165.out⟩, ⟨by repeat (first | (with_reducible first | exact HB.out | apply below_alloc | apply pw_below_drewN | apply below_drew1) | exact HB.out)⟩⟩
    case round =>
      clear H'
      try clear c1
      try clear c2
      try clear p2
      try clear c4
      try clear c4b0
      try clear c4b1
      obtain ⟨x7_1, x8_1, rfl, HA, HK1, HO_7, HB⟩ := hrel
      cases gk with
      | zero => exact absurd HA.out (by simp [aditref3_Field.l0])
      | succ k1 =>
        have H := HA.out
        clear HA
        simp only [aditref3_Field.l0] at H
        by_cases c7 : x8_1 < 384
        · rw [if_pos c7] at H
          have c7b0 : decide (x8_1 < 384) = true := decide_eq_true c7
          clear c7
          by_cases c8 : 0 ≤ x8_1
          · rw [if_pos c8] at H
            have c8b0 : decide (0 ≤ x8_1) = true := decide_eq_true c8
            clear c8
            by_cases c9 : x8_1 < (x7_1.length : Int)
            · rw [if_pos c9] at H
              have c9b0 : decide (x8_1 < (x7_1.length : Int)) = true := decide_eq_true c9
              clear c9
              obtain ⟨y166, hy166⟩ : ∃ y_ : List Int, y_ = (x7_1.set (x8_1 : Int).toNat (-1)) := ⟨_, rfl⟩
              replace H : (aditref3_Field.l0 k1 l0 l1 l2 y166 (wrap64 (x8_1 + 1))) = some r := by first | (rw [hy166]; with_reducible exact H) | (have H2_ := (Option.bind_some _ _).symm.trans H; rw [hy166]; with_reducible exact H2_) | (have H2_ := (Option.bind_some _ _).symm.trans H; with_reducible exact H2_) | with_reducible exact H | (rw [hy166]; exact H) | exact H
              have Ny166 := Aside0.mk hy166
              clear hy166
              have H' := Aside0.mk H
              clear H
              have p10 : 0 ≤ (x8_1 : Int) := of_decide_eq_true (by first | (with_reducible assumption) | assumption)
              have q10 : (x8_1 : Int) < ((x7_1.length : Int) : Int) := of_decide_eq_true (by first | (with_reducible assumption) | assumption)
              obtain ⟨go10, co10, eo10, gb10, gl10, cl10, HG10⟩ := Kd.R_form HO_7.out (by omega)
              (first | cases eo10 | (injection eo10 with ea_ en_ ec_; (first | subst ea_ | (injection ea_ with ea_; subst ea_)); subst ec_; clear en_))
              have GB10 := Aside0.mk gb10
              have GG10 := Aside0.mk HG10
              clear gb10 gl10 HG10
              obtain ⟨hx10_0, hf10_0⟩ := Kd.R_celln 0 HO_7.out (x8_1 : Int) p10 q10
              replace p10 := eq_true p10
              replace q10 := eq_true q10
              have HP11 := Kd.R_putg HO_7.out (x8_1 : Int) (-1)
              go_wp2_with (first | ((with_reducible refine gate_store (t := 3) (p := 26) rfl ?_); refine store_event (t := 3) (p := 26) (v := ?vo_w12) (w1 := (wr.setCell ⟨go10, (x8_1 : Int).toNat, none⟩ (.int .i64 (-1)))) ?hg ?ho ?hn ?hr ?_; (case ho => rfl); (case hg => rfl); (case hn => rfl); (case hr => first | (go_simp; done) | (go_simp; rfl)); intro w12 hw; have hg : wr.grownBy w12 (some go10) := (by rw [hw]; exact HP11.2); have hp_ : Kd.R (Kd.int .i64) 3 w12 w.heap.size (fun _ => True) (.slice (some ⟨go10, 0, none⟩) x7_1.length co10) y166 := (by rw [hw, Ny166.out]; exact HP11.1); clear HP11; have n0_ := Aside0.mk (hp_); have n1_ := Aside0.mk ((by rw [hw]; exact below_set (HB.out) GB10.out : Below w.heap.size w w12)); clear HO_7; clear HB; have HO_7 := n0_; have HB := n1_; clear n0_ n1_; clear hg hw hp_))
              go_roundg k1
              case measure => have := HK1.out; omega
              case rel => exact ⟨(y166), (wrap64 (x8_1 + 1)), (by first | rfl | (simp; done) | (simp [*]; done)), H', ⟨by have := HK1.out; omega⟩, ⟨by (with_reducible repeat (first | apply Kd.R_alloc | apply Kd.R_drewN | apply Kd.R_drew)); exact HO_7.out⟩, ⟨by repeat (first | (with_reducible first | exact HB.out | apply below_alloc | apply pw_below_drewN | apply below_drew1) | exact HB.out)⟩⟩
            · rw [if_neg c9] at H
              exact absurd H (by simp)
          · rw [if_neg c8] at H
            exact absurd H (by simp)
        · rw [if_neg c7] at H
          have c7b0 : decide (x8_1 < 384) = false := decide_eq_false c7
          clear c7
          have H' := Aside0.mk H
          clear H
          go_wp2
          go_loopg [9] k1 (fun kq v9 w' => ∃ (x7_2 : List Int) (x9_2 : Int), v9 = .int .i64 x9_2 ∧ Aside0 (aditref3_Field.l1 kq l0 l1 l2 x7_2 x9_2 = some r) ∧ Aside0 (kq ≤ k1) ∧ Aside0 (Kd.R (Kd.int .i64) 3 w' w.heap.size (fun _ => True) v164 x7_2) ∧ Aside0 (Below w.heap.size w w'))
          case atStart => exact ⟨(x7_1), (0), (by first | rfl | (simp; done) | (simp [*]; done)), H', ⟨Nat.le_refl _⟩, ⟨by (with_reducible repeat (first | apply Kd.R_alloc | apply Kd.R_drewN | apply Kd.R_drew)); exact HO_7.out⟩, ⟨by repeat (first | (with_reducible first | exact HB.out | apply below_alloc | apply pw_below_drewN | apply below_drew1) | exact HB.out)⟩⟩
          case round =>
            clear H'
            try clear c1
            try clear p1
            try clear q1
            try clear hx1
            try clear c2
            try clear p2
            try clear c4
            try clear c4b0
            try clear c4b1
            try clear p6
            try clear c7
            try clear c7b0
            try clear c8
            try clear c8b0
            try clear c9
            try clear c9b0
            try clear p10
            try clear q10
            try clear hx10
            try clear hf10
            try clear hx10_0
            try clear p10
            try clear p2
            try clear q10
            obtain ⟨x7_2, x9_2, rfl, HA, HK2, HO_7, HB⟩ := hrel
            cases gk with
            | zero => exact absurd HA.out (by simp [aditref3_Field.l1])
            | succ k2 =>
              have H := HA.out
              clear HA
              simp only [aditref3_Field.l1] at H
              by_cases c13 : x9_2 < (l2.length : Int)
              · rw [if_pos c13] at H
                have c13b0 : decide (x9_2 < (l2.length : Int)) = true := decide_eq_true c13
                clear c13
                by_cases c14 : 0 ≤ x9_2
                · rw [if_pos c14] at H
                  have c14b0 : decide (0 ≤ x9_2) = true := decide_eq_true c14
                  clear c14
                  by_cases c15 : (rd l2 x9_2) ≥ 0
                  · rw [if_pos c15] at H
                    have c15b0 : decide (0 ≤ (rd l2 x9_2)) = true := decide_eq_true c15
                    clear c15
                    by_cases c16 : (rd l2 x9_2) < 384
                    · rw [if_pos c16] at H
                      have c16b0 : decide ((rd l2 x9_2) < 384) = true := decide_eq_true c16
                      clear c16
                      replace H := Option.bind_eq_some_iff.mp H
                      obtain ⟨t168, A170, H⟩ := H
                      replace H : ((aditref3_Walk.f t168).bind fun t169 => (if t169 = true then (if 0 ≤ (rd l2 x9_2) then (if (rd l2 x9_2) < (x7_2.length : Int) then (aditref3_Field.l1 k2 l0 l1 l2 (x7_2.set ((rd l2 x9_2) : Int).toNat 0) (wrap64 (x9_2 + 1))) else (none)) else (none)) else (aditref3_Field.l1 k2 l0 l1 l2 x7_2 (wrap64 (x9_2 + 1))))) = some r := H
                      have A17 := Aside0.mk A170
                      clear A170
                      replace H := Option.bind_eq_some_iff.mp H
                      obtain ⟨t169, A180, H⟩ := H
                      replace H : (if t169 = true then (if 0 ≤ (rd l2 x9_2) then (if (rd l2 x9_2) < (x7_2.length : Int) then (aditref3_Field.l1 k2 l0 l1 l2 (x7_2.set ((rd l2 x9_2) : Int).toNat 0) (wrap64 (x9_2 + 1))) else (none)) else (none)) else (aditref3_Field.l1 k2 l0 l1 l2 x7_2 (wrap64 (x9_2 + 1)))) = some r := H
                      have A18 := Aside0.mk A180
                      clear A180
                      by_cases c19 : t169 = true
                      · subst c19
                        have H1 : (if 0 ≤ (rd l2 x9_2) then (if (rd l2 x9_2) < (x7_2.length : Int) then (aditref3_Field.l1 k2 l0 l1 l2 (x7_2.set ((rd l2 x9_2) : Int).toNat 0) (wrap64 (x9_2 + 1))) else (none)) else (none)) = some r := by rw [if_pos rfl] at H; exact H
                        clear H
                        have H := H1
                        clear H1
                        by_cases c20 : 0 ≤ (rd l2 x9_2)
                        · rw [if_pos c20] at H
                          have c20b0 : decide (0 ≤ (rd l2 x9_2)) = true := decide_eq_true c20
                          clear c20
                          by_cases c21 : (rd l2 x9_2) < (x7_2.length : Int)
                          · rw [if_pos c21] at H
                            have c21b0 : decide ((rd l2 x9_2) < (x7_2.length : Int)) = true := decide_eq_true c21
                            clear c21
                            obtain ⟨y170, hy170⟩ : ∃ y_ : List Int, y_ = (x7_2.set ((rd l2 x9_2) : Int).toNat 0) := ⟨_, rfl⟩
                            replace H : (aditref3_Field.l1 k2 l0 l1 l2 y170 (wrap64 (x9_2 + 1))) = some r := by first | (rw [hy170]; with_reducible exact H) | (have H2_ := (Option.bind_some _ _).symm.trans H; rw [hy170]; with_reducible exact H2_) | (have H2_ := (Option.bind_some _ _).symm.trans H; with_reducible exact H2_) | with_reducible exact H | (rw [hy170]; exact H) | exact H
                            have Ny170 := Aside0.mk hy170
                            clear hy170
                            have H' := Aside0.mk H
                            clear H
                            have p167 : 0 ≤ (x9_2 : Int) := of_decide_eq_true (by first | (with_reducible assumption) | assumption)
                            have q167 : x9_2 < (l2.length : Int) := of_decide_eq_true (by first | (with_reducible assumption) | assumption)
                            obtain ⟨ad167, e167, hx167_0⟩ := Kd.at_int HR2.out x9_2 p167 q167
                            cases e167
                            replace hx167_0 := (HB.out.cell (World.block_lt_of_cell? w _ hx167_0)).trans hx167_0
                            replace p167 := eq_true p167
                            replace q167 := eq_true q167
                            go_wp2_with (first | (go_at_call 28; (with_reducible refine (aditref3_At.calls _ _ l0 (Int.tmod (rd l2 x9_2) 24) (wrap64 (Int.tdiv (rd l2 x9_2) 24)) t168 _ ?side1 ?side2 A17.out).mono ?_); (case side1 => repeat (first | exact (Kd.C_below HR0.out HB.out) | (with_reducible refine Kd.C_alloc ?_ _) | (with_reducible refine Kd.C_drewN ?_ _) | (with_reducible refine Kd.C_drew ?_))); (case side2 => exact HC0.out); rintro e w' ⟨rfl, ⟨nd, rfl⟩⟩; (try (rw [drewN_self wr]; generalize hq_ : World.drewN wr _ = wr; have n0_ : Aside0 (Kd.R (Kd.int .i64) 3 wr w.heap.size (fun _ => True) v164 x7_2) := ⟨by rw [← hq_]; exact (by (with_reducible repeat (first | apply Kd.R_alloc | apply Kd.R_drewN | apply Kd.R_drew)); exact HO_7.out)⟩; have n1_ : Aside0 (Below w.heap.size w wr) := ⟨by rw [← hq_]; exact (by repeat (first | (with_reducible first | exact HB.out | apply below_alloc | apply pw_below_drewN | apply below_drew1) | exact HB.out))⟩; clear HO_7 HB hq_; have HO_7 := n0_; have HB := n1_; clear n0_ n1_))) | (go_at_call 19; (with_reducible refine (aditref3_Walk.calls t168 true _ A18.out).mono ?_); rintro e w' ⟨rfl, ⟨nd, rfl⟩⟩; (try (rw [drewN_self wr]; generalize hq_ : World.drewN wr _ = wr; have n0_ : Aside0 (Kd.R (Kd.int .i64) 3 wr w.heap.size (fun _ => True) v164 x7_2) := ⟨by rw [← hq_]; exact (by (with_reducible repeat (first | apply Kd.R_alloc | apply Kd.R_drewN | apply Kd.R_drew)); exact HO_7.out)⟩; have n1_ : Aside0 (Below w.heap.size w wr) := ⟨by rw [← hq_]; exact (by repeat (first | (with_reducible first | exact HB.out | apply below_alloc | apply pw_below_drewN | apply below_drew1) | exact HB.out))⟩; clear HO_7 HB hq_; have HO_7 := n0_; have HB := n1_; clear n0_ n1_)); have p22 : 0 ≤ ((rd l2 x9_2) : Int) := of_decide_eq_true (by first | (with_reducible assumption) | assumption); have q22 : ((rd l2 x9_2) : Int) < ((x7_2.length : Int) : Int) := of_decide_eq_true (by first | (with_reducible assumption) | assumption); obtain ⟨go22, co22, eo22, gb22, gl22, cl22, HG22⟩ := Kd.R_form HO_7.out (by omega); (first | cases eo22 | (injection eo22 with ea_ en_ ec_; (first | subst ea_ | (injection ea_ with ea_; subst ea_)); subst ec_; clear en_)); have GB22 := Aside0.mk gb22; have GG22 := Aside0.mk HG22; clear gb22 gl22 HG22; obtain ⟨hx22_0, hf22_0⟩ := Kd.R_celln 0 HO_7.out ((rd l2 x9_2) : Int) p22 q22; replace p22 := eq_true p22; replace q22 := eq_true q22; obtain ⟨hy23_, hz23_⟩ := Kd.R_celln 0 HO_7.out ((rd l2 x9_2) : Int) (of_decide_eq_true (by first | (with_reducible assumption) | assumption)) (of_decide_eq_true (by first | (with_reducible assumption) | assumption)); have HP23 := Kd.R_putg HO_7.out ((rd l2 x9_2) : Int) 0) | ((with_reducible refine gate_store (t := 3) (p := 54) rfl ?_); refine store_event (t := 3) (p := 54) (v := ?vo_w24) (w1 := (wr.setCell ⟨go22, ((rd l2 x9_2) : Int).toNat, none⟩ (.int .i64 0))) ?hg ?ho ?hn ?hr ?_; (case ho => rfl); (case hg => rfl); (case hn => rfl); (case hr => first | (go_simp; done) | (go_simp; rfl)); intro w24 hw; have hg : wr.grownBy w24 (some go22) := (by rw [hw]; exact HP23.2); have hp_ : Kd.R (Kd.int .i64) 3 w24 w.heap.size (fun _ => True) (.slice (some ⟨go22, 0, none⟩) x7_2.length co22) y170 := (by rw [hw, Ny170.out]; exact HP23.1); clear HP23; have n0_ := Aside0.mk (hp_); have n1_ := Aside0.mk ((by rw [hw]; exact below_set (HB.out) GB22.out : Below w.heap.size w w24)); clear HO_7; clear HB; have HO_7 := n0_; have HB := n1_; clear n0_ n1_; clear hg hw hp_))
                            go_roundg k2
                            case measure => have := HK1.out; have := HK2.out; omega
                            case rel => exact ⟨(y170), (wrap64 (x9_2 + 1)), (by first | rfl | (simp; done) | (simp [*]; done)), H', ⟨by have := HK1.out; have := HK2.out; omega⟩, ⟨by (with_reducible repeat (first | apply Kd.R_alloc | apply Kd.R_drewN | apply Kd.R_drew)); exact HO_7.out⟩, ⟨by repeat (first | (with_reducible first | exact HB.out | apply below_alloc | apply pw_below_drewN | apply below_drew1) | exact HB.out)⟩⟩
                          · rw [if_neg c21] at H
                            exact absurd H (by simp)
                        · rw [if_neg c20] at H
                          exact absurd H (by simp)
                      · replace c19 := Bool.eq_false_iff.mpr c19
                        subst c19
                        have H1 : (aditref3_Field.l1 k2 l0 l1 l2 x7_2 (wrap64 (x9_2 + 1))) = some r := by rw [if_neg (show ¬ (false = true) by decide)] at H; exact H
                        clear H
                        have H := H1
                        clear H1
                        have H' := Aside0.mk H
                        clear H
                        have p167 : 0 ≤ (x9_2 : Int) := of_decide_eq_true (by first | (with_reducible assumption) | assumption)
                        have q167 : x9_2 < (l2.length : Int) := of_decide_eq_true (by first | (with_reducible assumption) | assumption)
                        obtain ⟨ad167, e167, hx167_0⟩ := Kd.at_int HR2.out x9_2 p167 q167
                        cases e167
                        replace hx167_0 := (HB.out.cell (World.block_lt_of_cell? w _ hx167_0)).trans hx167_0
                        replace p167 := eq_true p167
                        replace q167 := eq_true q167
                        go_wp2_with (first | (go_at_call 28; (with_reducible refine (aditref3_At.calls _ _ l0 (Int.tmod (rd l2 x9_2) 24) (wrap64 (Int.tdiv (rd l2 x9_2) 24)) t168 _ ?side1 ?side2 A17.out).mono ?_); (case side1 => repeat (first | exact (Kd.C_below HR0.out HB.out) | (with_reducible refine Kd.C_alloc ?_ _) | (with_reducible refine Kd.C_drewN ?_ _) | (with_reducible refine Kd.C_drew ?_))); (case side2 => exact HC0.out); rintro e w' ⟨rfl, ⟨nd, rfl⟩⟩) | (go_at_call 19; (with_reducible refine (aditref3_Walk.calls t168 false _ A18.out).mono ?_); rintro e w' ⟨rfl, ⟨nd, rfl⟩⟩))
                        go_roundg k2
                        case measure => have := HK1.out; have := HK2.out; omega
                        case rel => exact ⟨(x7_2), (wrap64 (x9_2 + 1)), (by first | rfl | (simp; done) | (simp [*]; done)), H', ⟨by have := HK1.out; have := HK2.out; omega⟩, ⟨by (with_reducible repeat (first | apply Kd.R_alloc | apply Kd.R_drewN | apply Kd.R_drew)); exact HO_7.out⟩, ⟨by repeat (first | (with_reducible first | exact HB.out | apply below_alloc | apply pw_below_drewN | apply below_drew1) | exact HB.out)⟩⟩
                    · rw [if_neg c16] at H
                      have c16b0 : decide ((rd l2 x9_2) < 384) = false := decide_eq_false c16
                      clear c16
                      have H' := Aside0.mk H
                      clear H
                      have p167 : 0 ≤ (x9_2 : Int) := of_decide_eq_true (by first | (with_reducible assumption) | assumption)
                      have q167 : x9_2 < (l2.length : Int) := of_decide_eq_true (by first | (with_reducible assumption) | assumption)
                      obtain ⟨ad167, e167, hx167_0⟩ := Kd.at_int HR2.out x9_2 p167 q167
                      cases e167
                      replace hx167_0 := (HB.out.cell (World.block_lt_of_cell? w _ hx167_0)).trans hx167_0
                      replace p167 := eq_true p167
                      replace q167 := eq_true q167
                      go_wp2
                      go_roundg k2
                      case measure => have := HK1.out; have := HK2.out; omega
                      case rel => exact ⟨(x7_2), (wrap64 (x9_2 + 1)), (by first | rfl | (simp; done) | (simp [*]; done)), H', ⟨by have := HK1.out; have := HK2.out; omega⟩, ⟨by (with_reducible repeat (first | apply Kd.R_alloc | apply Kd.R_drewN | apply Kd.R_drew)); exact HO_7.out⟩, ⟨by repeat (first | (with_reducible first | exact HB.out | apply below_alloc | apply pw_below_drewN | apply below_drew1) | exact HB.out)⟩⟩
                  · rw [if_neg c15] at H
                    have c15b0 : decide (0 ≤ (rd l2 x9_2)) = false := decide_eq_false c15
                    clear c15
                    have H' := Aside0.mk H
                    clear H
                    have p167 : 0 ≤ (x9_2 : Int) := of_decide_eq_true (by first | (with_reducible assumption) | assumption)
                    have q167 : x9_2 < (l2.length : Int) := of_decide_eq_true (by first | (with_reducible assumption) | assumption)
                    obtain ⟨ad167, e167, hx167_0⟩ := Kd.at_int HR2.out x9_2 p167 q167
                    cases e167
                    replace hx167_0 := (HB.out.cell (World.block_lt_of_cell? w _ hx167_0)).trans hx167_0
                    replace p167 := eq_true p167
                    replace q167 := eq_true q167
                    go_wp2
                    go_roundg k2
                    case measure => have := HK1.out; have := HK2.out; omega
                    case rel => exact ⟨(x7_2), (wrap64 (x9_2 + 1)), (by first | rfl | (simp; done) | (simp [*]; done)), H', ⟨by have := HK1.out; have := HK2.out; omega⟩, ⟨by (with_reducible repeat (first | apply Kd.R_alloc | apply Kd.R_drewN | apply Kd.R_drew)); exact HO_7.out⟩, ⟨by repeat (first | (with_reducible first | exact HB.out | apply below_alloc | apply pw_below_drewN | apply below_drew1) | exact HB.out)⟩⟩
                · rw [if_neg c14] at H
                  exact absurd H (by simp)
              · rw [if_neg c13] at H
                have c13b0 : decide (x9_2 < (l2.length : Int)) = false := decide_eq_false c13
                clear c13
                have H' := Aside0.mk H
                clear H
                go_wp2
                go_loopg [11, 12] k2 (fun kq v11 v12 w' => ∃ (x11_3 : List Int) (x12_3 : Int), v12 = .int .i64 x12_3 ∧ Aside0 (aditref3_Field.l2 kq l0 l1 x7_2 x11_3 x12_3 = some r) ∧ Aside0 (kq ≤ k2) ∧ Aside0 (Kd.R (Kd.int .i64) 3 w' w.heap.size (fun k_ => some k_ ≠ (v11 : Value).ownBlock) v164 x7_2) ∧ Aside0 (Kd.R (Kd.int .i64) 3 w' w.heap.size (fun k_ => some k_ ≠ (v164 : Value).ownBlock) v11 x11_3) ∧ Aside0 (Below w.heap.size w w'))
                case atStart => exact ⟨(([] : List Int)), (0), (by first | rfl | (simp; done) | (simp [*]; done)), H', ⟨Nat.le_refl _⟩, ⟨by (with_reducible repeat (first | apply Kd.R_alloc | apply Kd.R_drewN | apply Kd.R_drew)); exact Kd.R_mono HO_7.out (fun _ hk => (by simp [Value.ownBlock]))⟩, ⟨by first | exact Kd.R_nil _ _ _ _ _ | exact Kd.N_nil _ _ _ _ _ | exact Kd.V_nil _ _ _ _ _ | exact Kd.Q_nil _ _ _ _ _ | exact Kd.S_nil _ _ _ _ _⟩, ⟨by repeat (first | (with_reducible first | exact HB.out | apply below_alloc | apply pw_below_drewN | apply below_drew1) | exact HB.out)⟩⟩
                case round =>
                  clear H'
                  try clear c1
                  try clear p1
                  try clear q1
                  try clear hx1
                  try clear c2
                  try clear p2
                  try clear q2
                  try clear hx2
                  try clear c4
                  try clear c4b0
                  try clear c4b1
                  try clear p6
                  try clear c7
                  try clear c7b0
                  try clear c8
                  try clear c8b0
                  try clear c9
                  try clear c9b0
                  try clear p10
                  try clear q10
                  try clear hx10
                  try clear hf10
                  try clear c13
                  try clear c13b0
                  try clear c14
                  try clear c14b0
                  try clear c15
                  try clear c15b0
                  try clear c16
                  try clear c16b0
                  try clear p16
                  try clear q16
                  try clear hx16
                  try clear c18
                  try clear c19
                  try clear c20
                  try clear c20b0
                  try clear c21
                  try clear c21b0
                  try clear p22
                  try clear q22
                  try clear hx22
                  try clear hf22
                  try clear hx10_0
                  try clear hx167_0
                  try clear hx22_0
                  try clear p1
                  try clear p10
                  try clear p167
                  try clear p2
                  try clear p22
                  try clear p6
                  try clear q1
                  try clear q10
                  try clear q167
                  try clear q22
                  obtain ⟨x11_3, x12_3, rfl, HA, HK3, HO_7, HO_11, HB⟩ := hrel
                  cases gk with
                  | zero => exact absurd HA.out (by simp [aditref3_Field.l2])
                  | succ k3 =>
                    have H := HA.out
                    clear HA
                    simp only [aditref3_Field.l2] at H
                    by_cases c25 : x12_3 < 384
                    · rw [if_pos c25] at H
                      have c25b0 : decide (x12_3 < 384) = true := decide_eq_true c25
                      clear c25
                      by_cases c26 : 0 ≤ x12_3
                      · rw [if_pos c26] at H
                        have c26b0 : decide (0 ≤ x12_3) = true := decide_eq_true c26
                        clear c26
                        by_cases c27 : x12_3 < (x7_2.length : Int)
                        · rw [if_pos c27] at H
                          have c27b0 : decide (x12_3 < (x7_2.length : Int)) = true := decide_eq_true c27
                          clear c27
                          by_cases c28 : (rd x7_2 x12_3) = 0
                          · rw [if_pos c28] at H
                            have c28b0 : ((rd x7_2 x12_3) == 0) = true := beq_iff_eq.mpr c28
                            have c28b1 : ((rd x7_2 x12_3) != 0) = false := bne_eq_false_iff_eq.mpr c28
                            clear c28
                            by_cases c29 : x11_3.length < 17592186044416
                            · rw [if_pos c29] at H
                              have LMc29 := Aside0.mk c29
                              clear c29
                              obtain ⟨y172, hy172⟩ : ∃ y_ : List Int, y_ = (x11_3 ++ [x12_3]) := ⟨_, rfl⟩
                              replace H : (aditref3_Field.l2 k3 l0 l1 x7_2 y172 (wrap64 (x12_3 + 1))) = some r := by first | (rw [hy172]; with_reducible exact H) | (have H2_ := (Option.bind_some _ _).symm.trans H; rw [hy172]; with_reducible exact H2_) | (have H2_ := (Option.bind_some _ _).symm.trans H; with_reducible exact H2_) | with_reducible exact H | (rw [hy172]; exact H) | exact H
                              have Ny172 := Aside0.mk hy172
                              clear hy172
                              have H' := Aside0.mk H
                              clear H
                              obtain ⟨Ao30, co30, eo30⟩ := Kd.R_slice HO_7.out
                              subst eo30
                              have p171 : 0 ≤ (x12_3 : Int) := of_decide_eq_true (by first | (with_reducible assumption) | assumption)
                              have q171 : x12_3 < (x7_2.length : Int) := of_decide_eq_true (by first | (with_reducible assumption) | assumption)
                              obtain ⟨ad171, e171, hx171_0⟩ := Kd.at_int (Kd.R_reads' HO_7.out).2.2 x12_3 p171 q171
                              cases e171
                              replace p171 := eq_true p171
                              replace q171 := eq_true q171
                              go_wp2_with (first | ((with_reducible refine gate_builtin (b := .append) (xs := #[.tmp 64, .tmp 66]) rfl ?_); (try (refine gate_guard (by rfl) ?_; dsimp only)); at_builtin; refine Kd.R_append (Kd.int .i64) (w0 := w) w.heap.size rfl (.tmp 64) (.tmp 66) 24 3 (.int .i64 0) 8 rfl Try.underlying24 info3 rfl (by decide) (by omega) u11 x11_3 x12_3 [.int .i64 x12_3] (fun k_ => some k_ ≠ (.slice (some ad171) x7_2.length co30 : Value).ownBlock) (fun _ => False) rfl rfl ?aP (fun _ hk => hk.elim) ?aF ?aO ?aB ?aS ?aL ?_; (case aP => exact rfl); (case aB => exact (by repeat (first | (with_reducible first | exact HB.out | apply below_alloc | apply pw_below_drewN | apply below_drew1) | exact HB.out))); (case aF => exact (fun k_ hk => Kd.fresh' (Kd.R_lt (by (with_reducible repeat (first | apply Kd.R_alloc | apply Kd.R_drewN | apply Kd.R_drew)); exact HO_7.out)) k_ hk)); (case aO => exact (by (with_reducible repeat (first | apply Kd.R_alloc | apply Kd.R_drewN | apply Kd.R_drew)); exact HO_11.out)); (case aS => exact (below_size (by repeat (first | (with_reducible first | exact HB.out | apply below_alloc | apply pw_below_drewN | apply below_drew1) | exact HB.out)))); (case aL => have := LMc29.out; omega); intro v173 w31 ho hb hg hat; rw [← Ny172.out] at ho; have n0_ := Aside0.mk (Kd.R_after (ok := (fun _ => True)) (by (with_reducible repeat (first | apply Kd.R_alloc | apply Kd.R_drewN | apply Kd.R_drew)); exact Kd.R_mono HO_7.out (fun _ hk => ⟨trivial, hk⟩)) hg hat); have n1_ := Aside0.mk (hb); have n2_ := Aside0.mk (ho); clear HO_7; clear HB; clear HO_11; have HO_7 := n0_; have HB := n1_; have HO174 := n2_; clear n0_ n1_ n2_; clear ho hb hg hat))
                              go_roundg k3
                              case measure => have := HK1.out; have := HK2.out; have := HK3.out; omega
                              case rel => exact ⟨(y172), (wrap64 (x12_3 + 1)), (by first | rfl | (simp; done) | (simp [*]; done)), H', ⟨by have := HK1.out; have := HK2.out; have := HK3.out; omega⟩, ⟨by (with_reducible repeat (first | apply Kd.R_alloc | apply Kd.R_drewN | apply Kd.R_drew)); exact Kd.R_mono HO_7.out (fun _ hk => hk.2)⟩, ⟨by (with_reducible repeat (first | apply Kd.R_alloc | apply Kd.R_drewN | apply Kd.R_drew)); exact HO174.out⟩, ⟨by repeat (first | (with_reducible first | exact HB.out | apply below_alloc | apply pw_below_drewN | apply below_drew1) | exact HB.out)⟩⟩
                            · rw [if_neg c29] at H
                              exact absurd H (by simp)
                          · rw [if_neg c28] at H
                            have c28b0 : ((rd x7_2 x12_3) == 0) = false := beq_eq_false_iff_ne.mpr c28
                            have c28b1 : ((rd x7_2 x12_3) != 0) = true := bne_iff_ne.mpr c28
                            have H' := Aside0.mk H
                            clear H
                            obtain ⟨Ao32, co32, eo32⟩ := Kd.R_slice HO_7.out
                            subst eo32
                            have p171 : 0 ≤ (x12_3 : Int) := of_decide_eq_true (by first | (with_reducible assumption) | assumption)
                            have q171 : x12_3 < (x7_2.length : Int) := of_decide_eq_true (by first | (with_reducible assumption) | assumption)
                            obtain ⟨ad171, e171, hx171_0⟩ := Kd.at_int (Kd.R_reads' HO_7.out).2.2 x12_3 p171 q171
                            cases e171
                            replace p171 := eq_true p171
                            replace q171 := eq_true q171
                            go_wp2
                            go_roundg k3
                            case measure => have := HK1.out; have := HK2.out; have := HK3.out; omega
                            case rel => exact ⟨(x11_3), (wrap64 (x12_3 + 1)), (by first | rfl | (simp; done) | (simp [*]; done)), H', ⟨by have := HK1.out; have := HK2.out; have := HK3.out; omega⟩, ⟨by (with_reducible repeat (first | apply Kd.R_alloc | apply Kd.R_drewN | apply Kd.R_drew)); exact HO_7.out⟩, ⟨by (with_reducible repeat (first | apply Kd.R_alloc | apply Kd.R_drewN | apply Kd.R_drew)); exact HO_11.out⟩, ⟨by repeat (first | (with_reducible first | exact HB.out | apply below_alloc | apply pw_below_drewN | apply below_drew1) | exact HB.out)⟩⟩
                        · rw [if_neg c27] at H
                          exact absurd H (by simp)
                      · rw [if_neg c26] at H
                        exact absurd H (by simp)
                    · rw [if_neg c25] at H
                      have c25b0 : decide (x12_3 < 384) = false := decide_eq_false c25
                      clear c25
                      have H' := Aside0.mk H
                      clear H
                      go_wp2
                      go_loopg [11, 13] k3 (fun kq v11 v13 w' => ∃ (x7_4 : List Int) (x11_4 : List Int) (x13_4 : Int), v13 = .int .i64 x13_4 ∧ Aside0 (aditref3_Field.l3 kq l0 l1 x7_4 x11_4 x13_4 = some r) ∧ Aside0 (kq ≤ k3) ∧ Aside0 (Kd.R (Kd.int .i64) 3 w' w.heap.size (fun k_ => some k_ ≠ (v11 : Value).ownBlock) v164 x7_4) ∧ Aside0 (Kd.R (Kd.int .i64) 3 w' w.heap.size (fun k_ => some k_ ≠ (v164 : Value).ownBlock) v11 x11_4) ∧ Aside0 (Below w.heap.size w w'))
                      case atStart => exact ⟨(x7_2), (x11_3), (0), (by first | rfl | (simp; done) | (simp [*]; done)), H', ⟨Nat.le_refl _⟩, ⟨by (with_reducible repeat (first | apply Kd.R_alloc | apply Kd.R_drewN | apply Kd.R_drew)); exact HO_7.out⟩, ⟨by (with_reducible repeat (first | apply Kd.R_alloc | apply Kd.R_drewN | apply Kd.R_drew)); exact HO_11.out⟩, ⟨by repeat (first | (with_reducible first | exact HB.out | apply below_alloc | apply pw_below_drewN | apply below_drew1) | exact HB.out)⟩⟩
                      case round =>
                        clear H'
                        try clear c1
                        try clear p1
                        try clear q1
                        try clear hx1
                        try clear c2
                        try clear p2
                        try clear q2
                        try clear hx2
                        try clear c4
                        try clear c4b0
                        try clear c4b1
                        try clear p6
                        try clear c7
                        try clear c7b0
                        try clear c8
                        try clear c8b0
                        try clear c9
                        try clear c9b0
                        try clear p10
                        try clear q10
                        try clear hx10
                        try clear hf10
                        try clear c13
                        try clear c13b0
                        try clear c14
                        try clear c14b0
                        try clear c15
                        try clear c15b0
                        try clear c16
                        try clear c16b0
                        try clear p16
                        try clear q16
                        try clear hx16
                        try clear p17
                        try clear q17
                        try clear hx17
                        try clear c18
                        try clear c19
                        try clear c20
                        try clear c20b0
                        try clear c21
                        try clear c21b0
                        try clear p22
                        try clear q22
                        try clear hx22
                        try clear hf22
                        try clear c25
                        try clear c25b0
                        try clear c26
                        try clear c26b0
                        try clear c27
                        try clear c27b0
                        try clear c28
                        try clear c28b0
                        try clear c28b1
                        try clear c29
                        try clear hx10_0
                        try clear hx167_0
                        try clear hx171_0
                        try clear hx22_0
                        try clear p1
                        try clear p10
                        try clear p16
                        try clear p167
                        try clear p171
                        try clear p2
                        try clear p22
                        try clear p6
                        try clear q1
                        try clear q10
                        try clear q16
                        try clear q167
                        try clear q171
                        try clear q2
                        try clear q22
                        obtain ⟨x7_4, x11_4, x13_4, rfl, HA, HK4, HO_7, HO_11, HB⟩ := hrel
                        cases gk with
                        | zero => exact absurd HA.out (by simp [aditref3_Field.l3])
                        | succ k4 =>
                          have H := HA.out
                          clear HA
                          simp only [aditref3_Field.l3] at H
                          by_cases c33 : x13_4 < (x11_4.length : Int)
                          · rw [if_pos c33] at H
                            have c33b0 : decide (x13_4 < (x11_4.length : Int)) = true := decide_eq_true c33
                            clear c33
                            by_cases c34 : 0 ≤ x13_4
                            · rw [if_pos c34] at H
                              have c34b0 : decide (0 ≤ x13_4) = true := decide_eq_true c34
                              clear c34
                              have H' := Aside0.mk H
                              clear H
                              obtain ⟨Ao35, co35, eo35⟩ := Kd.R_slice HO_11.out
                              subst eo35
                              have p175 : 0 ≤ (x13_4 : Int) := of_decide_eq_true (by first | (with_reducible assumption) | assumption)
                              have q175 : x13_4 < (x11_4.length : Int) := of_decide_eq_true (by first | (with_reducible assumption) | assumption)
                              obtain ⟨ad175, e175, hx175_0⟩ := Kd.at_int (Kd.R_reads' HO_11.out).2.2 x13_4 p175 q175
                              cases e175
                              replace p175 := eq_true p175
                              replace q175 := eq_true q175
                              go_wp2
                              go_loopg [11, 15] k4 (fun kq v11 v15 w' => ∃ (x7_5 : List Int) (x11_5 : List Int) (x15_5 : Int), v15 = .int .i64 x15_5 ∧ Aside0 (aditref3_Field.l4 kq l0 l1 x7_5 x11_5 x13_4 (rd x11_4 x13_4) x15_5 = some r) ∧ Aside0 (kq ≤ k4) ∧ Aside0 (Kd.R (Kd.int .i64) 3 w' w.heap.size (fun k_ => some k_ ≠ (v11 : Value).ownBlock) v164 x7_5) ∧ Aside0 (Kd.R (Kd.int .i64) 3 w' w.heap.size (fun k_ => some k_ ≠ (v164 : Value).ownBlock) v11 x11_5) ∧ Aside0 (Below w.heap.size w w'))
                              case atStart => exact ⟨(x7_4), (x11_4), (0), (by first | rfl | (simp; done) | (simp [*]; done)), H', ⟨Nat.le_refl _⟩, ⟨by (with_reducible repeat (first | apply Kd.R_alloc | apply Kd.R_drewN | apply Kd.R_drew)); exact HO_7.out⟩, ⟨by (with_reducible repeat (first | apply Kd.R_alloc | apply Kd.R_drewN | apply Kd.R_drew)); exact HO_11.out⟩, ⟨by repeat (first | (with_reducible first | exact HB.out | apply below_alloc | apply pw_below_drewN | apply below_drew1) | exact HB.out)⟩⟩
                              case round =>
                                clear H'
                                try clear c1
                                try clear p1
                                try clear q1
                                try clear hx1
                                try clear c2
                                try clear p2
                                try clear q2
                                try clear hx2
                                try clear c3
                                try clear c4
                                try clear c4b0
                                try clear c4b1
                                try clear p6
                                try clear c7
                                try clear c7b0
                                try clear c8
                                try clear c8b0
                                try clear c9
                                try clear c9b0
                                try clear p10
                                try clear q10
                                try clear hx10
                                try clear hf10
                                try clear c13
                                try clear c13b0
                                try clear c14
                                try clear c14b0
                                try clear c15
                                try clear c15b0
                                try clear c16
                                try clear c16b0
                                try clear p16
                                try clear q16
                                try clear hx16
                                try clear p17
                                try clear q17
                                try clear hx17
                                try clear c18
                                try clear c19
                                try clear c20
                                try clear c20b0
                                try clear c21
                                try clear c21b0
                                try clear p22
                                try clear q22
                                try clear hx22
                                try clear hf22
                                try clear c25
                                try clear c25b0
                                try clear c26
                                try clear c26b0
                                try clear c27
                                try clear c27b0
                                try clear c28
                                try clear c28b0
                                try clear c28b1
                                try clear c29
                                try clear c33
                                try clear c33b0
                                try clear c34
                                try clear c34b0
                                try clear hx10_0
                                try clear hx167_0
                                try clear hx171_0
                                try clear hx175_0
                                try clear hx22_0
                                try clear p1
                                try clear p10
                                try clear p16
                                try clear p167
                                try clear p17
                                try clear p171
                                try clear p175
                                try clear p2
                                try clear p22
                                try clear p6
                                try clear q1
                                try clear q10
                                try clear q16
                                try clear q167
                                try clear q17
                                try clear q171
                                try clear q175
                                try clear q2
                                try clear q22
                                obtain ⟨x7_5, x11_5, x15_5, rfl, HA, HK5, HO_7, HO_11, HB⟩ := hrel
                                cases gk with
                                | zero => exact absurd HA.out (by simp [aditref3_Field.l4])
                                | succ k5 =>
                                  have H := HA.out
                                  clear HA
                                  simp only [aditref3_Field.l4] at H
                                  by_cases c36 : x15_5 < 4
                                  · rw [if_pos c36] at H
                                    have c36b0 : decide (x15_5 < 4) = true := decide_eq_true c36
                                    clear c36
                                    have HC37 := Aside0.mk H
                                    clear H
                                    go_upto_block 10 with (fail)
                                    go_cut [16, 17] (fun v16 v17 wc => ∃ (kq : Nat) (x16_36 : Int) (x17_36 : Int), v16 = .int .i64 x16_36 ∧ v17 = .int .i64 x17_36 ∧ Aside0 (aditref3_Field.j5 kq l0 l1 x7_5 x11_5 x13_4 (rd x11_4 x13_4) x15_5 x16_36 x17_36 = some r) ∧ Aside0 (kq ≤ k5) ∧ Aside0 (Kd.R (Kd.int .i64) 3 wc w.heap.size (fun k_ => some k_ ≠ (u11 : Value).ownBlock) v164 x7_5) ∧ Aside0 (Kd.R (Kd.int .i64) 3 wc w.heap.size (fun k_ => some k_ ≠ (v164 : Value).ownBlock) u11 x11_5) ∧ Aside0 (Below w.heap.size w wc))
                                    case first =>
                                      have H := HC37.out
                                      clear HC37
                                      by_cases c38 : x15_5 = 0
                                      · rw [if_pos c38] at H
                                        have c38b0 : (x15_5 == 0) = true := beq_iff_eq.mpr c38
                                        have c38b1 : (x15_5 != 0) = false := bne_eq_false_iff_eq.mpr c38
                                        clear c38
                                        (first | rw [c38b0] | (simp only [i64_w, i32_w]; rw [c38b0]) | skip)
                                        have H' := Aside0.mk H
                                        clear H
                                        go_wp2
                                        go_meet
                                        case rel => exact ⟨_, (Int.tmod (rd x11_4 x13_4) 24), (wrap64 ((wrap64 (Int.tdiv (rd x11_4 x13_4) 24)) - 1)), (by first | rfl | (simp; done) | (simp [*]; done)), (by first | rfl | (simp; done) | (simp [*]; done)), H', ⟨by have := HK1.out; have := HK2.out; have := HK3.out; have := HK4.out; have := HK5.out; first | omega | exact Nat.le_refl _⟩, ⟨by (with_reducible repeat (first | apply Kd.R_alloc | apply Kd.R_drewN | apply Kd.R_drew)); exact HO_7.out⟩, ⟨by (with_reducible repeat (first | apply Kd.R_alloc | apply Kd.R_drewN | apply Kd.R_drew)); exact HO_11.out⟩, ⟨by repeat (first | (with_reducible first | exact HB.out | apply below_alloc | apply pw_below_drewN | apply below_drew1) | exact HB.out)⟩⟩
                                      · rw [if_neg c38] at H
                                        have c38b0 : (x15_5 == 0) = false := beq_eq_false_iff_ne.mpr c38
                                        have c38b1 : (x15_5 != 0) = true := bne_iff_ne.mpr c38
                                        (first | rw [c38b0] | (simp only [i64_w, i32_w]; rw [c38b0]) | skip)
                                        by_cases c39 : x15_5 = 1
                                        · rw [if_pos c39] at H
                                          have c39b0 : (x15_5 == 1) = true := beq_iff_eq.mpr c39
                                          have c39b1 : (x15_5 != 1) = false := bne_eq_false_iff_eq.mpr c39
                                          clear c39
                                          have H' := Aside0.mk H
                                          clear H
                                          go_wp2
                                          go_meet
                                          case rel => exact ⟨_, (wrap64 ((Int.tmod (rd x11_4 x13_4) 24) + 1)), (wrap64 (Int.tdiv (rd x11_4 x13_4) 24)), (by first | rfl | (simp; done) | (simp [*]; done)), (by first | rfl | (simp; done) | (simp [*]; done)), H', ⟨by have := HK1.out; have := HK2.out; have := HK3.out; have := HK4.out; have := HK5.out; first | omega | exact Nat.le_refl _⟩, ⟨by (with_reducible repeat (first | apply Kd.R_alloc | apply Kd.R_drewN | apply Kd.R_drew)); exact HO_7.out⟩, ⟨by (with_reducible repeat (first | apply Kd.R_alloc | apply Kd.R_drewN | apply Kd.R_drew)); exact HO_11.out⟩, ⟨by repeat (first | (with_reducible first | exact HB.out | apply below_alloc | apply pw_below_drewN | apply below_drew1) | exact HB.out)⟩⟩
                                        · rw [if_neg c39] at H
                                          have c39b0 : (x15_5 == 1) = false := beq_eq_false_iff_ne.mpr c39
                                          have c39b1 : (x15_5 != 1) = true := bne_iff_ne.mpr c39
                                          by_cases c40 : x15_5 = 2
                                          · rw [if_pos c40] at H
                                            have c40b0 : (x15_5 == 2) = true := beq_iff_eq.mpr c40
                                            have c40b1 : (x15_5 != 2) = false := bne_eq_false_iff_eq.mpr c40
                                            clear c40
                                            have H' := Aside0.mk H
                                            clear H
                                            go_wp2
                                            go_meet
                                            case rel => exact ⟨_, (Int.tmod (rd x11_4 x13_4) 24), (wrap64 ((wrap64 (Int.tdiv (rd x11_4 x13_4) 24)) + 1)), (by first | rfl | (simp; done) | (simp [*]; done)), (by first | rfl | (simp; done) | (simp [*]; done)), H', ⟨by have := HK1.out; have := HK2.out; have := HK3.out; have := HK4.out; have := HK5.out; first | omega | exact Nat.le_refl _⟩, ⟨by (with_reducible repeat (first | apply Kd.R_alloc | apply Kd.R_drewN | apply Kd.R_drew)); exact HO_7.out⟩, ⟨by (with_reducible repeat (first | apply Kd.R_alloc | apply Kd.R_drewN | apply Kd.R_drew)); exact HO_11.out⟩, ⟨by repeat (first | (with_reducible first | exact HB.out | apply below_alloc | apply pw_below_drewN | apply below_drew1) | exact HB.out)⟩⟩
                                          · rw [if_neg c40] at H
                                            have c40b0 : (x15_5 == 2) = false := beq_eq_false_iff_ne.mpr c40
                                            have c40b1 : (x15_5 != 2) = true := bne_iff_ne.mpr c40
                                            by_cases c41 : x15_5 = 3
                                            · rw [if_pos c41] at H
                                              have c41b0 : (x15_5 == 3) = true := beq_iff_eq.mpr c41
                                              have c41b1 : (x15_5 != 3) = false := bne_eq_false_iff_eq.mpr c41
                                              clear c41
                                              have H' := Aside0.mk H
                                              clear H
                                              go_wp2
                                              go_meet
                                              case rel => exact ⟨_, (wrap64 ((Int.tmod (rd x11_4 x13_4) 24) - 1)), (wrap64 (Int.tdiv (rd x11_4 x13_4) 24)), (by first | rfl | (simp; done) | (simp [*]; done)), (by first | rfl | (simp; done) | (simp [*]; done)), H', ⟨by have := HK1.out; have := HK2.out; have := HK3.out; have := HK4.out; have := HK5.out; first | omega | exact Nat.le_refl _⟩, ⟨by (with_reducible repeat (first | apply Kd.R_alloc | apply Kd.R_drewN | apply Kd.R_drew)); exact HO_7.out⟩, ⟨by (with_reducible repeat (first | apply Kd.R_alloc | apply Kd.R_drewN | apply Kd.R_drew)); exact HO_11.out⟩, ⟨by repeat (first | (with_reducible first | exact HB.out | apply below_alloc | apply pw_below_drewN | apply below_drew1) | exact HB.out)⟩⟩
                                            · rw [if_neg c41] at H
                                              have c41b0 : (x15_5 == 3) = false := beq_eq_false_iff_ne.mpr c41
                                              have c41b1 : (x15_5 != 3) = true := bne_iff_ne.mpr c41
                                              have H' := Aside0.mk H
                                              clear H
                                              go_wp2
                                              go_meet
                                              case rel => exact ⟨_, (Int.tmod (rd x11_4 x13_4) 24), (wrap64 (Int.tdiv (rd x11_4 x13_4) 24)), (by first | rfl | (simp; done) | (simp [*]; done)), (by first | rfl | (simp; done) | (simp [*]; done)), H', ⟨by have := HK1.out; have := HK2.out; have := HK3.out; have := HK4.out; have := HK5.out; first | omega | exact Nat.le_refl _⟩, ⟨by (with_reducible repeat (first | apply Kd.R_alloc | apply Kd.R_drewN | apply Kd.R_drew)); exact HO_7.out⟩, ⟨by (with_reducible repeat (first | apply Kd.R_alloc | apply Kd.R_drewN | apply Kd.R_drew)); exact HO_11.out⟩, ⟨by repeat (first | (with_reducible first | exact HB.out | apply below_alloc | apply pw_below_drewN | apply below_drew1) | exact HB.out)⟩⟩
                                    case rest =>
                                      clear HC37
                                      try clear c1
                                      try clear p1
                                      try clear q1
                                      try clear hx1
                                      try clear c2
                                      try clear p2
                                      try clear q2
                                      try clear hx2
                                      try clear c3
                                      try clear c4
                                      try clear c4b0
                                      try clear c4b1
                                      try clear p6
                                      try clear c7
                                      try clear c7b0
                                      try clear c8
                                      try clear c8b0
                                      try clear c9
                                      try clear c9b0
                                      try clear p10
                                      try clear q10
                                      try clear hx10
                                      try clear hf10
                                      try clear c13
                                      try clear c13b0
                                      try clear c14
                                      try clear c14b0
                                      try clear c15
                                      try clear c15b0
                                      try clear c16
                                      try clear c16b0
                                      try clear p16
                                      try clear q16
                                      try clear hx16
                                      try clear p17
                                      try clear q17
                                      try clear hx17
                                      try clear c18
                                      try clear c19
                                      try clear c20
                                      try clear c20b0
                                      try clear c21
                                      try clear c21b0
                                      try clear p22
                                      try clear q22
                                      try clear hx22
                                      try clear hf22
                                      try clear c25
                                      try clear c25b0
                                      try clear c26
                                      try clear c26b0
                                      try clear c27
                                      try clear c27b0
                                      try clear c28
                                      try clear c28b0
                                      try clear c28b1
                                      try clear c29
                                      try clear c33
                                      try clear c33b0
                                      try clear c34
                                      try clear c34b0
                                      try clear c36
                                      try clear c36b0
                                      try clear c38
                                      try clear c38b0
                                      try clear c38b1
                                      try clear c39
                                      try clear c39b0
                                      try clear c39b1
                                      try clear c40
                                      try clear c40b0
                                      try clear c40b1
                                      try clear c41
                                      try clear c41b0
                                      try clear c41b1
                                      try clear hx10_0
                                      try clear hx167_0
                                      try clear hx171_0
                                      try clear hx175_0
                                      try clear hx22_0
                                      try clear p1
                                      try clear p10
                                      try clear p16
                                      try clear p167
                                      try clear p17
                                      try clear p171
                                      try clear p175
                                      try clear p2
                                      try clear p22
                                      try clear p6
                                      try clear q1
                                      try clear q10
                                      try clear q16
                                      try clear q167
                                      try clear q17
                                      try clear q171
                                      try clear q175
                                      try clear q2
                                      try clear q22
                                      obtain ⟨kq, x16_36, x17_36, rfl, rfl, HA, HJ36, HO_7, HO_11, HB⟩ := hcut
                                      cases kq with
                                      | zero => exact absurd HA.out (by simp [aditref3_Field.j5])
                                      | succ kj36 =>
                                        have H := HA.out
                                        clear HA
                                        simp only [aditref3_Field.j5] at H
                                        replace H := Option.bind_eq_some_iff.mp H
                                        obtain ⟨t176, A420, H⟩ := H
                                        replace H : (if t176 = true then (if 0 ≤ (wrap64 ((wrap64 (x17_36 * 24)) + x16_36)) then (if (wrap64 ((wrap64 (x17_36 * 24)) + x16_36)) < (x7_5.length : Int) then (if (rd x7_5 (wrap64 ((wrap64 (x17_36 * 24)) + x16_36))) < 0 then ((aditref3_At.f l0 x16_36 x17_36).bind fun t178 => ((aditref3_Walk.f t178).bind fun t179 => (if t179 = true then (if (wrap64 ((wrap64 (x17_36 * 24)) + x16_36)) ≥ (l1.length : Int) then (if 0 ≤ (rd x11_4 x13_4) then (if (rd x11_4 x13_4) < (x7_5.length : Int) then (if x11_5.length < 17592186044416 then (aditref3_Field.l4 kj36 l0 l1 (x7_5.set ((wrap64 ((wrap64 (x17_36 * 24)) + x16_36)) : Int).toNat (wrap64 ((rd x7_5 (rd x11_4 x13_4)) + 1))) (x11_5 ++ [wrap64 ((wrap64 (x17_36 * 24)) + x16_36)]) x13_4 (rd x11_4 x13_4) (wrap64 (x15_5 + 1))) else (none)) else (none)) else (none)) else (if (wrap64 ((wrap64 (x17_36 * 24)) + x16_36)) < (l1.length : Int) then (if (rdOf false l1 (wrap64 ((wrap64 (x17_36 * 24)) + x16_36)) = true) then (aditref3_Field.l4 kj36 l0 l1 x7_5 x11_5 x13_4 (rd x11_4 x13_4) (wrap64 (x15_5 + 1))) else (if 0 ≤ (rd x11_4 x13_4) then (if (rd x11_4 x13_4) < (x7_5.length : Int) then (if x11_5.length < 17592186044416 then (aditref3_Field.l4 kj36 l0 l1 (x7_5.set ((wrap64 ((wrap64 (x17_36 * 24)) + x16_36)) : Int).toNat (wrap64 ((rd x7_5 (rd x11_4 x13_4)) + 1))) (x11_5 ++ [wrap64 ((wrap64 (x17_36 * 24)) + x16_36)]) x13_4 (rd x11_4 x13_4) (wrap64 (x15_5 + 1))) else (none)) else (none)) else (none))) else (none))) else (aditref3_Field.l4 kj36 l0 l1 x7_5 x11_5 x13_4 (rd x11_4 x13_4) (wrap64 (x15_5 + 1)))))) else (aditref3_Field.l4 kj36 l0 l1 x7_5 x11_5 x13_4 (rd x11_4 x13_4) (wrap64 (x15_5 + 1)))) else (none)) else (none)) else (aditref3_Field.l4 kj36 l0 l1 x7_5 x11_5 x13_4 (rd x11_4 x13_4) (wrap64 (x15_5 + 1)))) = some r := H
                                        have A42 := Aside0.mk A420
                                        clear A420
                                        by_cases c43 : t176 = true
                                        · subst c43
                                          have H1 : (if 0 ≤ (wrap64 ((wrap64 (x17_36 * 24)) + x16_36)) then (if (wrap64 ((wrap64 (x17_36 * 24)) + x16_36)) < (x7_5.length : Int) then (if (rd x7_5 (wrap64 ((wrap64 (x17_36 * 24)) + x16_36))) < 0 then ((aditref3_At.f l0 x16_36 x17_36).bind fun t178 => ((aditref3_Walk.f t178).bind fun t179 => (if t179 = true then (if (wrap64 ((wrap64 (x17_36 * 24)) + x16_36)) ≥ (l1.length : Int) then (if 0 ≤ (rd x11_4 x13_4) then (if (rd x11_4 x13_4) < (x7_5.length : Int) then (if x11_5.length < 17592186044416 then (aditref3_Field.l4 kj36 l0 l1 (x7_5.set ((wrap64 ((wrap64 (x17_36 * 24)) + x16_36)) : Int).toNat (wrap64 ((rd x7_5 (rd x11_4 x13_4)) + 1))) (x11_5 ++ [wrap64 ((wrap64 (x17_36 * 24)) + x16_36)]) x13_4 (rd x11_4 x13_4) (wrap64 (x15_5 + 1))) else (none)) else (none)) else (none)) else (if (wrap64 ((wrap64 (x17_36 * 24)) + x16_36)) < (l1.length : Int) then (if (rdOf false l1 (wrap64 ((wrap64 (x17_36 * 24)) + x16_36)) = true) then (aditref3_Field.l4 kj36 l0 l1 x7_5 x11_5 x13_4 (rd x11_4 x13_4) (wrap64 (x15_5 + 1))) else (if 0 ≤ (rd x11_4 x13_4) then (if (rd x11_4 x13_4) < (x7_5.length : Int) then (if x11_5.length < 17592186044416 then (aditref3_Field.l4 kj36 l0 l1 (x7_5.set ((wrap64 ((wrap64 (x17_36 * 24)) + x16_36)) : Int).toNat (wrap64 ((rd x7_5 (rd x11_4 x13_4)) + 1))) (x11_5 ++ [wrap64 ((wrap64 (x17_36 * 24)) + x16_36)]) x13_4 (rd x11_4 x13_4) (wrap64 (x15_5 + 1))) else (none)) else (none)) else (none))) else (none))) else (aditref3_Field.l4 kj36 l0 l1 x7_5 x11_5 x13_4 (rd x11_4 x13_4) (wrap64 (x15_5 + 1)))))) else (aditref3_Field.l4 kj36 l0 l1 x7_5 x11_5 x13_4 (rd x11_4 x13_4) (wrap64 (x15_5 + 1)))) else (none)) else (none)) = some r := by rw [if_pos rfl] at H; exact H
                                          clear H
                                          have H := H1
                                          clear H1
                                          obtain ⟨ji44, hji44⟩ : ∃ j_ : Int, (wrap64 ((wrap64 (x17_36 * 24)) + x16_36)) = j_ := ⟨_, rfl⟩
                                          replace H : (if 0 ≤ (ji44) then (if (ji44) < (x7_5.length : Int) then (if (rd x7_5 (ji44)) < 0 then ((aditref3_At.f l0 x16_36 x17_36).bind fun t178 => ((aditref3_Walk.f t178).bind fun t179 => (if t179 = true then (if (ji44) ≥ (l1.length : Int) then (if 0 ≤ (rd x11_4 x13_4) then (if (rd x11_4 x13_4) < (x7_5.length : Int) then (if x11_5.length < 17592186044416 then (aditref3_Field.l4 kj36 l0 l1 (x7_5.set ((ji44) : Int).toNat (wrap64 ((rd x7_5 (rd x11_4 x13_4)) + 1))) (x11_5 ++ [ji44]) x13_4 (rd x11_4 x13_4) (wrap64 (x15_5 + 1))) else (none)) else (none)) else (none)) else (if (ji44) < (l1.length : Int) then (if (rdOf false l1 (ji44) = true) then (aditref3_Field.l4 kj36 l0 l1 x7_5 x11_5 x13_4 (rd x11_4 x13_4) (wrap64 (x15_5 + 1))) else (if 0 ≤ (rd x11_4 x13_4) then (if (rd x11_4 x13_4) < (x7_5.length : Int) then (if x11_5.length < 17592186044416 then (aditref3_Field.l4 kj36 l0 l1 (x7_5.set ((ji44) : Int).toNat (wrap64 ((rd x7_5 (rd x11_4 x13_4)) + 1))) (x11_5 ++ [ji44]) x13_4 (rd x11_4 x13_4) (wrap64 (x15_5 + 1))) else (none)) else (none)) else (none))) else (none))) else (aditref3_Field.l4 kj36 l0 l1 x7_5 x11_5 x13_4 (rd x11_4 x13_4) (wrap64 (x15_5 + 1)))))) else (aditref3_Field.l4 kj36 l0 l1 x7_5 x11_5 x13_4 (rd x11_4 x13_4) (wrap64 (x15_5 + 1)))) else (none)) else (none)) = some r := by first | (rw [hji44] at H; exact H) | (simp only [hji44] at H ⊢; exact H)
                                          (try rw [hji44] at A42)
                                          have hji44w : (IntKind.i64.wrap ((wrap64 (x17_36 * 24)) + x16_36)) = ji44 := (i64_w _).trans hji44
                                          by_cases c45 : 0 ≤ (ji44)
                                          · rw [if_pos c45] at H
                                            have c45b0 : decide (0 ≤ (ji44)) = true := decide_eq_true c45
                                            clear c45
                                            by_cases c46 : (ji44) < (x7_5.length : Int)
                                            · rw [if_pos c46] at H
                                              have c46b0 : decide ((ji44) < (x7_5.length : Int)) = true := decide_eq_true c46
                                              clear c46
                                              by_cases c47 : (rd x7_5 (ji44)) < 0
                                              · rw [if_pos c47] at H
                                                have c47b0 : decide ((rd x7_5 (ji44)) < 0) = true := decide_eq_true c47
                                                clear c47
                                                replace H := Option.bind_eq_some_iff.mp H
                                                obtain ⟨t178, A480, H⟩ := H
                                                replace H : ((aditref3_Walk.f t178).bind fun t179 => (if t179 = true then (if (ji44) ≥ (l1.length : Int) then (if 0 ≤ (rd x11_4 x13_4) then (if (rd x11_4 x13_4) < (x7_5.length : Int) then (if x11_5.length < 17592186044416 then (aditref3_Field.l4 kj36 l0 l1 (x7_5.set ((ji44) : Int).toNat (wrap64 ((rd x7_5 (rd x11_4 x13_4)) + 1))) (x11_5 ++ [ji44]) x13_4 (rd x11_4 x13_4) (wrap64 (x15_5 + 1))) else (none)) else (none)) else (none)) else (if (ji44) < (l1.length : Int) then (if (rdOf false l1 (ji44) = true) then (aditref3_Field.l4 kj36 l0 l1 x7_5 x11_5 x13_4 (rd x11_4 x13_4) (wrap64 (x15_5 + 1))) else (if 0 ≤ (rd x11_4 x13_4) then (if (rd x11_4 x13_4) < (x7_5.length : Int) then (if x11_5.length < 17592186044416 then (aditref3_Field.l4 kj36 l0 l1 (x7_5.set ((ji44) : Int).toNat (wrap64 ((rd x7_5 (rd x11_4 x13_4)) + 1))) (x11_5 ++ [ji44]) x13_4 (rd x11_4 x13_4) (wrap64 (x15_5 + 1))) else (none)) else (none)) else (none))) else (none))) else (aditref3_Field.l4 kj36 l0 l1 x7_5 x11_5 x13_4 (rd x11_4 x13_4) (wrap64 (x15_5 + 1))))) = some r := H
                                                have A48 := Aside0.mk A480
                                                clear A480
                                                replace H := Option.bind_eq_some_iff.mp H
                                                obtain ⟨t179, A490, H⟩ := H
                                                replace H : (if t179 = true then (if (ji44) ≥ (l1.length : Int) then (if 0 ≤ (rd x11_4 x13_4) then (if (rd x11_4 x13_4) < (x7_5.length : Int) then (if x11_5.length < 17592186044416 then (aditref3_Field.l4 kj36 l0 l1 (x7_5.set ((ji44) : Int).toNat (wrap64 ((rd x7_5 (rd x11_4 x13_4)) + 1))) (x11_5 ++ [ji44]) x13_4 (rd x11_4 x13_4) (wrap64 (x15_5 + 1))) else (none)) else (none)) else (none)) else (if (ji44) < (l1.length : Int) then (if (rdOf false l1 (ji44) = true) then (aditref3_Field.l4 kj36 l0 l1 x7_5 x11_5 x13_4 (rd x11_4 x13_4) (wrap64 (x15_5 + 1))) else (if 0 ≤ (rd x11_4 x13_4) then (if (rd x11_4 x13_4) < (x7_5.length : Int) then (if x11_5.length < 17592186044416 then (aditref3_Field.l4 kj36 l0 l1 (x7_5.set ((ji44) : Int).toNat (wrap64 ((rd x7_5 (rd x11_4 x13_4)) + 1))) (x11_5 ++ [ji44]) x13_4 (rd x11_4 x13_4) (wrap64 (x15_5 + 1))) else (none)) else (none)) else (none))) else (none))) else (aditref3_Field.l4 kj36 l0 l1 x7_5 x11_5 x13_4 (rd x11_4 x13_4) (wrap64 (x15_5 + 1)))) = some r := H
                                                have A49 := Aside0.mk A490
                                                clear A490
                                                by_cases c50 : t179 = true
                                                · subst c50
                                                  have H1 : (if (ji44) ≥ (l1.length : Int) then (if 0 ≤ (rd x11_4 x13_4) then (if (rd x11_4 x13_4) < (x7_5.length : Int) then (if x11_5.length < 17592186044416 then (aditref3_Field.l4 kj36 l0 l1 (x7_5.set ((ji44) : Int).toNat (wrap64 ((rd x7_5 (rd x11_4 x13_4)) + 1))) (x11_5 ++ [ji44]) x13_4 (rd x11_4 x13_4) (wrap64 (x15_5 + 1))) else (none)) else (none)) else (none)) else (if (ji44) < (l1.length : Int) then (if (rdOf false l1 (ji44) = true) then (aditref3_Field.l4 kj36 l0 l1 x7_5 x11_5 x13_4 (rd x11_4 x13_4) (wrap64 (x15_5 + 1))) else (if 0 ≤ (rd x11_4 x13_4) then (if (rd x11_4 x13_4) < (x7_5.length : Int) then (if x11_5.length < 17592186044416 then (aditref3_Field.l4 kj36 l0 l1 (x7_5.set ((ji44) : Int).toNat (wrap64 ((rd x7_5 (rd x11_4 x13_4)) + 1))) (x11_5 ++ [ji44]) x13_4 (rd x11_4 x13_4) (wrap64 (x15_5 + 1))) else (none)) else (none)) else (none))) else (none))) = some r := by rw [if_pos rfl] at H; exact H
                                                  clear H
                                                  have H := H1
                                                  clear H1
                                                  by_cases c51 : (ji44) ≥ (l1.length : Int)
                                                  · rw [if_pos c51] at H
                                                    have c51b0 : decide ((l1.length : Int) ≤ (ji44)) = true := decide_eq_true c51
                                                    clear c51
                                                    by_cases c52 : 0 ≤ (rd x11_4 x13_4)
                                                    · rw [if_pos c52] at H
                                                      have c52b0 : decide (0 ≤ (rd x11_4 x13_4)) = true := decide_eq_true c52
                                                      clear c52
                                                      by_cases c53 : (rd x11_4 x13_4) < (x7_5.length : Int)
                                                      · rw [if_pos c53] at H
                                                        have c53b0 : decide ((rd x11_4 x13_4) < (x7_5.length : Int)) = true := decide_eq_true c53
                                                        clear c53
                                                        obtain ⟨y181, hy181⟩ : ∃ y_ : List Int, y_ = (x7_5.set ((ji44) : Int).toNat (wrap64 ((rd x7_5 (rd x11_4 x13_4)) + 1))) := ⟨_, rfl⟩
                                                        replace H : (if x11_5.length < 17592186044416 then (aditref3_Field.l4 kj36 l0 l1 y181 (x11_5 ++ [ji44]) x13_4 (rd x11_4 x13_4) (wrap64 (x15_5 + 1))) else (none)) = some r := by first | (rw [hy181]; with_reducible exact H) | (have H2_ := (Option.bind_some _ _).symm.trans H; rw [hy181]; with_reducible exact H2_) | (have H2_ := (Option.bind_some _ _).symm.trans H; with_reducible exact H2_) | with_reducible exact H | (rw [hy181]; exact H) | exact H
                                                        have Ny181 := Aside0.mk hy181
                                                        clear hy181
                                                        by_cases c55 : x11_5.length < 17592186044416
                                                        · rw [if_pos c55] at H
                                                          have LMc55 := Aside0.mk c55
                                                          clear c55
                                                          obtain ⟨y182, hy182⟩ : ∃ y_ : List Int, y_ = (x11_5 ++ [ji44]) := ⟨_, rfl⟩
                                                          replace H : (aditref3_Field.l4 kj36 l0 l1 y181 y182 x13_4 (rd x11_4 x13_4) (wrap64 (x15_5 + 1))) = some r := by first | (rw [hy182]; with_reducible exact H) | (have H2_ := (Option.bind_some _ _).symm.trans H; rw [hy182]; with_reducible exact H2_) | (have H2_ := (Option.bind_some _ _).symm.trans H; with_reducible exact H2_) | with_reducible exact H | (rw [hy182]; exact H) | exact H
                                                          have Ny182 := Aside0.mk hy182
                                                          clear hy182
                                                          have H' := Aside0.mk H
                                                          clear H
                                                          go_wp2_with (first | ((with_reducible refine gate_callee (f := 20) rfl ?_); refine goesL_ (some 109) rfl rfl Try.func20 (by kernel_rfl) rfl #[.int .i64 x16_36, .int .i64 x17_36] rfl (by (try simp only [List.map_toArray, List.map_cons, List.map_nil]); first | done | rfl | (simp only [List.length_drop, List.length_take]; rfl)) ?_; (with_reducible refine (aditref3_In.calls x16_36 x17_36 true _ A42.out).mono ?_); rintro e w' ⟨rfl, ⟨nd, rfl⟩⟩; refine ⟨_, rfl, ?_⟩; (try (rw [drewN_self wc]; generalize hq_ : World.drewN wc _ = wc; have n0_ : Aside0 (Kd.R (Kd.int .i64) 3 wc w.heap.size (fun k_ => some k_ ≠ (v164 : Value).ownBlock) u11 x11_5) := ⟨by rw [← hq_]; exact (by (with_reducible repeat (first | apply Kd.R_alloc | apply Kd.R_drewN | apply Kd.R_drew)); exact HO_11.out)⟩; have n1_ : Aside0 (Kd.R (Kd.int .i64) 3 wc w.heap.size (fun k_ => some k_ ≠ (u11 : Value).ownBlock) v164 x7_5) := ⟨by rw [← hq_]; exact (by (with_reducible repeat (first | apply Kd.R_alloc | apply Kd.R_drewN | apply Kd.R_drew)); exact HO_7.out)⟩; have n2_ : Aside0 (Below w.heap.size w wc) := ⟨by rw [← hq_]; exact (by repeat (first | (with_reducible first | exact HB.out | apply below_alloc | apply pw_below_drewN | apply below_drew1) | exact HB.out))⟩; clear HO_11 HO_7 HB hq_; have HO_11 := n0_; have HO_7 := n1_; have HB := n2_; clear n0_ n1_ n2_)); obtain ⟨Ao56, co56, eo56⟩ := Kd.R_slice HO_7.out; subst eo56; have p177 : 0 ≤ ((ji44) : Int) := of_decide_eq_true (by first | (with_reducible assumption) | assumption); have q177 : (ji44) < (x7_5.length : Int) := of_decide_eq_true (by first | (with_reducible assumption) | assumption); obtain ⟨ad177, e177, hx177_0⟩ := Kd.at_int (Kd.R_reads' HO_7.out).2.2 (ji44) p177 q177; cases e177; replace p177 := eq_true p177; replace q177 := eq_true q177) | (go_at_call 28; (with_reducible refine (aditref3_At.calls _ _ l0 x16_36 x17_36 t178 _ ?side1 ?side2 A48.out).mono ?_); (case side1 => repeat (first | exact (Kd.C_below HR0.out HB.out) | (with_reducible refine Kd.C_alloc ?_ _) | (with_reducible refine Kd.C_drewN ?_ _) | (with_reducible refine Kd.C_drew ?_))); (case side2 => exact HC0.out); rintro e w' ⟨rfl, ⟨nd, rfl⟩⟩; (try (rw [drewN_self wc]; generalize hq_ : World.drewN wc _ = wc; have n0_ : Aside0 (Kd.R (Kd.int .i64) 3 wc w.heap.size (fun k_ => some k_ ≠ (.slice (some ad177) x7_5.length co56 : Value).ownBlock) u11 x11_5) := ⟨by rw [← hq_]; exact (by (with_reducible repeat (first | apply Kd.R_alloc | apply Kd.R_drewN | apply Kd.R_drew)); exact HO_11.out)⟩; have n1_ : Aside0 (Kd.R (Kd.int .i64) 3 wc w.heap.size (fun k_ => some k_ ≠ (u11 : Value).ownBlock) (.slice (some ad177) x7_5.length co56) x7_5) := ⟨by rw [← hq_]; exact (by (with_reducible repeat (first | apply Kd.R_alloc | apply Kd.R_drewN | apply Kd.R_drew)); exact HO_7.out)⟩; have n2_ : Aside0 (Below w.heap.size w wc) := ⟨by rw [← hq_]; exact (by repeat (first | (with_reducible first | exact HB.out | apply below_alloc | apply pw_below_drewN | apply below_drew1) | exact HB.out))⟩; clear HO_11 HO_7 HB hq_; have HO_11 := n0_; have HO_7 := n1_; have HB := n2_; clear n0_ n1_ n2_))) | (go_at_call 19; (with_reducible refine (aditref3_Walk.calls t178 true _ A49.out).mono ?_); rintro e w' ⟨rfl, ⟨nd, rfl⟩⟩; (try (rw [drewN_self wc]; generalize hq_ : World.drewN wc _ = wc; have n0_ : Aside0 (Kd.R (Kd.int .i64) 3 wc w.heap.size (fun k_ => some k_ ≠ (.slice (some ad177) x7_5.length co56 : Value).ownBlock) u11 x11_5) := ⟨by rw [← hq_]; exact (by (with_reducible repeat (first | apply Kd.R_alloc | apply Kd.R_drewN | apply Kd.R_drew)); exact HO_11.out)⟩; have n1_ : Aside0 (Kd.R (Kd.int .i64) 3 wc w.heap.size (fun k_ => some k_ ≠ (u11 : Value).ownBlock) (.slice (some ad177) x7_5.length co56) x7_5) := ⟨by rw [← hq_]; exact (by (with_reducible repeat (first | apply Kd.R_alloc | apply Kd.R_drewN | apply Kd.R_drew)); exact HO_7.out)⟩; have n2_ : Aside0 (Below w.heap.size w wc) := ⟨by rw [← hq_]; exact (by repeat (first | (with_reducible first | exact HB.out | apply below_alloc | apply pw_below_drewN | apply below_drew1) | exact HB.out))⟩; clear HO_11 HO_7 HB hq_; have HO_11 := n0_; have HO_7 := n1_; have HB := n2_; clear n0_ n1_ n2_)); have p180 : 0 ≤ ((rd x11_4 x13_4) : Int) := of_decide_eq_true (by first | (with_reducible assumption) | assumption); have q180 : (rd x11_4 x13_4) < (x7_5.length : Int) := of_decide_eq_true (by first | (with_reducible assumption) | assumption); obtain ⟨ad180, e180, hx180_0⟩ := Kd.at_int (Kd.R_reads' HO_7.out).2.2 (rd x11_4 x13_4) p180 q180; obtain rfl : ad177 = ad180 := (by injection e180); replace p180 := eq_true p180; replace q180 := eq_true q180; have p54 : 0 ≤ ((ji44) : Int) := of_decide_eq_true (by first | (with_reducible assumption) | assumption); have q54 : ((ji44) : Int) < ((x7_5.length : Int) : Int) := of_decide_eq_true (by first | (with_reducible assumption) | assumption); obtain ⟨go54, co54, eo54, gb54, gl54, cl54, HG54⟩ := Kd.R_form HO_7.out (by omega); (first | cases eo54 | (injection eo54 with ea_ en_ ec_; (first | subst ea_ | (injection ea_ with ea_; subst ea_)); subst ec_; clear en_)); have GB54 := Aside0.mk gb54; have GG54 := Aside0.mk HG54; clear gb54 gl54 HG54; (first | simp only [add_plain] at hx177_0 | skip); (first | simp only [add_plain] at hx180_0 | skip); obtain ⟨hx54_0, hf54_0⟩ := Kd.R_celln 0 HO_7.out ((ji44) : Int) p54 q54; replace p54 := eq_true p54; replace q54 := eq_true q54; obtain ⟨hy57_, hz57_⟩ := Kd.R_celln 0 HO_7.out ((ji44) : Int) (of_decide_eq_true (by first | (with_reducible assumption) | assumption)) (of_decide_eq_true (by first | (with_reducible assumption) | assumption)); have HP57 := Kd.R_putg HO_7.out ((ji44) : Int) (wrap64 ((rd x7_5 (rd x11_4 x13_4)) + 1))) | ((with_reducible refine gate_store (t := 3) (p := 144) rfl ?_); refine store_event (t := 3) (p := 144) (v := ?vo_w58) (w1 := (wc.setCell ⟨go54, ((ji44) : Int).toNat, none⟩ (.int .i64 (wrap64 ((rd x7_5 (rd x11_4 x13_4)) + 1))))) ?hg ?ho ?hn ?hr ?_; (case ho => rfl); (case hg => rfl); (case hn => rfl); (case hr => first | (go_simp; done) | (go_simp; rfl)); intro w58 hw; have hg : wc.grownBy w58 (some go54) := (by rw [hw]; exact HP57.2); have hp_ : Kd.R (Kd.int .i64) 3 w58 w.heap.size (fun k_ => some k_ ≠ (u11 : Value).ownBlock) (.slice (some ⟨go54, 0, none⟩) x7_5.length co56) y181 := (by rw [hw, Ny181.out]; exact HP57.1); clear HP57; have n0_ := Aside0.mk (hp_); have n1_ := Aside0.mk (Kd.R_after (v := (.slice (some ⟨go54, 0, none⟩) x7_5.length co56)) (v1 := (.slice (some ⟨go54, 0, none⟩) x7_5.length co56)) (ok := (fun _ => True)) (by (with_reducible repeat (first | apply Kd.R_alloc | apply Kd.R_drewN | apply Kd.R_drew)); exact Kd.R_mono HO_11.out (fun _ hk => ⟨trivial, hk⟩)) hg (.inl rfl)); have n2_ := Aside0.mk ((by rw [hw]; exact below_set (HB.out) GB54.out : Below w.heap.size w w58)); clear HO_7; clear HO_11; clear HB; have HO_7 := n0_; have HO_11 := n1_; have HB := n2_; clear n0_ n1_ n2_; clear hg hw hp_) | ((with_reducible refine gate_builtin (b := .append) (xs := #[.tmp 145, .tmp 147]) rfl ?_); (try (refine gate_guard (by rfl) ?_; dsimp only)); at_builtin; refine Kd.R_append (Kd.int .i64) (w0 := w) w.heap.size rfl (.tmp 145) (.tmp 147) 24 3 (.int .i64 0) 8 rfl Try.underlying24 info3 rfl (by decide) (by omega) u11 x11_5 ji44 [.int .i64 ji44] (fun k_ => some k_ ≠ (.slice (some ⟨go54, 0, none⟩) x7_5.length co56 : Value).ownBlock) (fun _ => False) rfl rfl ?aP (fun _ hk => hk.elim) ?aF ?aO ?aB ?aS ?aL ?_; (case aP => exact rfl); (case aB => exact (by repeat (first | (with_reducible first | exact HB.out | apply below_alloc | apply pw_below_drewN | apply below_drew1) | exact HB.out))); (case aF => exact (fun k_ hk => Kd.fresh' (Kd.R_lt (by (with_reducible repeat (first | apply Kd.R_alloc | apply Kd.R_drewN | apply Kd.R_drew)); exact HO_7.out)) k_ hk)); (case aO => exact (by (with_reducible repeat (first | apply Kd.R_alloc | apply Kd.R_drewN | apply Kd.R_drew)); exact Kd.R_mono HO_11.out (fun _ hk => hk.2))); (case aS => exact (below_size (by repeat (first | (with_reducible first | exact HB.out | apply below_alloc | apply pw_below_drewN | apply below_drew1) | exact HB.out)))); (case aL => have := LMc55.out; omega); intro v183 w59 ho hb hg hat; rw [← Ny182.out] at ho; have n0_ := Aside0.mk (Kd.R_after (ok := (fun _ => True)) (by (with_reducible repeat (first | apply Kd.R_alloc | apply Kd.R_drewN | apply Kd.R_drew)); exact Kd.R_mono HO_7.out (fun _ hk => ⟨trivial, hk⟩)) hg hat); have n1_ := Aside0.mk (hb); have n2_ := Aside0.mk (ho); clear HO_7; clear HB; clear HO_11; have HO_7 := n0_; have HB := n1_; have HO184 := n2_; clear n0_ n1_ n2_; clear ho hb hg hat))
                                                          go_roundg kj36
                                                          case measure => have := HK1.out; have := HK2.out; have := HK3.out; have := HK4.out; have := HK5.out; have := HJ36.out; omega
                                                          case rel => exact ⟨(y181), (y182), (wrap64 (x15_5 + 1)), (by first | rfl | (simp; done) | (simp [*]; done)), H', ⟨by have := HK1.out; have := HK2.out; have := HK3.out; have := HK4.out; have := HK5.out; have := HJ36.out; omega⟩, ⟨by (with_reducible repeat (first | apply Kd.R_alloc | apply Kd.R_drewN | apply Kd.R_drew)); exact Kd.R_mono HO_7.out (fun _ hk => hk.2)⟩, ⟨by (with_reducible repeat (first | apply Kd.R_alloc | apply Kd.R_drewN | apply Kd.R_drew)); exact HO184.out⟩, ⟨by repeat (first | (with_reducible first | exact HB.out | apply below_alloc | apply pw_below_drewN | apply below_drew1) | exact HB.out)⟩⟩
                                                        · rw [if_neg c55] at H
                                                          exact absurd H (by simp)
                                                      · rw [if_neg c53] at H
                                                        exact absurd H (by simp)
                                                    · rw [if_neg c52] at H
                                                      exact absurd H (by simp)
                                                  · rw [if_neg c51] at H
                                                    have c51b0 : decide ((l1.length : Int) ≤ (ji44)) = false := decide_eq_false c51
                                                    clear c51
                                                    by_cases c60 : (ji44) < (l1.length : Int)
                                                    · rw [if_pos c60] at H
                                                      have c60b0 : decide ((ji44) < (l1.length : Int)) = true := decide_eq_true c60
                                                      clear c60
                                                      obtain ⟨bq61, hbq61⟩ : ∃ b_ : Bool, b_ = (rdOf false l1 (ji44)) := ⟨_, rfl⟩
                                                      replace H : (if (bq61 = true) then (aditref3_Field.l4 kj36 l0 l1 x7_5 x11_5 x13_4 (rd x11_4 x13_4) (wrap64 (x15_5 + 1))) else (if 0 ≤ (rd x11_4 x13_4) then (if (rd x11_4 x13_4) < (x7_5.length : Int) then (if x11_5.length < 17592186044416 then (aditref3_Field.l4 kj36 l0 l1 (x7_5.set ((ji44) : Int).toNat (wrap64 ((rd x7_5 (rd x11_4 x13_4)) + 1))) (x11_5 ++ [ji44]) x13_4 (rd x11_4 x13_4) (wrap64 (x15_5 + 1))) else (none)) else (none)) else (none))) = some r := by rw [← hbq61] at H; exact H
                                                      have Nbq61 := Aside0.mk hbq61
                                                      clear hbq61
                                                      by_cases c62 : (bq61 = true)
                                                      · subst c62
                                                        have H1 : (aditref3_Field.l4 kj36 l0 l1 x7_5 x11_5 x13_4 (rd x11_4 x13_4) (wrap64 (x15_5 + 1))) = some r := by rw [if_pos rfl] at H; exact H
                                                        clear H
                                                        have H := H1
                                                        clear H1
                                                        have H' := Aside0.mk H
                                                        clear H
                                                        go_wp2_with (first | ((with_reducible refine gate_callee (f := 20) rfl ?_); refine goesL_ (some 109) rfl rfl Try.func20 (by kernel_rfl) rfl #[.int .i64 x16_36, .int .i64 x17_36] rfl (by (try simp only [List.map_toArray, List.map_cons, List.map_nil]); first | done | rfl | (simp only [List.length_drop, List.length_take]; rfl)) ?_; (with_reducible refine (aditref3_In.calls x16_36 x17_36 true _ A42.out).mono ?_); rintro e w' ⟨rfl, ⟨nd, rfl⟩⟩; refine ⟨_, rfl, ?_⟩; obtain ⟨Ao63, co63, eo63⟩ := Kd.R_slice HO_7.out; subst eo63; have p177 : 0 ≤ ((ji44) : Int) := of_decide_eq_true (by first | (with_reducible assumption) | assumption); have q177 : (ji44) < (x7_5.length : Int) := of_decide_eq_true (by first | (with_reducible assumption) | assumption); obtain ⟨ad177, e177, hx177_0⟩ := Kd.at_int (Kd.R_reads' HO_7.out).2.2 (ji44) p177 q177; cases e177; replace p177 := eq_true p177; replace q177 := eq_true q177) | (go_at_call 28; (with_reducible refine (aditref3_At.calls _ _ l0 x16_36 x17_36 t178 _ ?side1 ?side2 A48.out).mono ?_); (case side1 => repeat (first | exact (Kd.C_below HR0.out (by repeat (first | (with_reducible first | exact HB.out | apply below_alloc | apply pw_below_drewN | apply below_drew1) | exact HB.out))) | (with_reducible refine Kd.C_alloc ?_ _) | (with_reducible refine Kd.C_drewN ?_ _) | (with_reducible refine Kd.C_drew ?_))); (case side2 => exact HC0.out); rintro e w' ⟨rfl, ⟨nd, rfl⟩⟩) | (go_at_call 19; (with_reducible refine (aditref3_Walk.calls t178 true _ A49.out).mono ?_); rintro e w' ⟨rfl, ⟨nd, rfl⟩⟩; have p185 : 0 ≤ ((ji44) : Int) := of_decide_eq_true (by first | (with_reducible assumption) | assumption); have q185 : (ji44) < (l1.length : Int) := of_decide_eq_true (by first | (with_reducible assumption) | assumption); obtain ⟨ad185, e185, hx185_0⟩ := Kd.at_bool HR1.out (ji44) p185 q185; (try rw [← Nbq61.out] at hx185_0); cases e185; replace hx185_0 := (HB.out.cell (World.block_lt_of_cell? w _ hx185_0)).trans hx185_0; replace p185 := eq_true p185; replace q185 := eq_true q185))
                                                        go_roundg kj36
                                                        case measure => have := HK1.out; have := HK2.out; have := HK3.out; have := HK4.out; have := HK5.out; have := HJ36.out; omega
                                                        case rel => exact ⟨(x7_5), (x11_5), (wrap64 (x15_5 + 1)), (by first | rfl | (simp; done) | (simp [*]; done)), H', ⟨by have := HK1.out; have := HK2.out; have := HK3.out; have := HK4.out; have := HK5.out; have := HJ36.out; omega⟩, ⟨by (with_reducible repeat (first | apply Kd.R_alloc | apply Kd.R_drewN | apply Kd.R_drew)); exact HO_7.out⟩, ⟨by (with_reducible repeat (first | apply Kd.R_alloc | apply Kd.R_drewN | apply Kd.R_drew)); exact HO_11.out⟩, ⟨by repeat (first | (with_reducible first | exact HB.out | apply below_alloc | apply pw_below_drewN | apply below_drew1) | exact HB.out)⟩⟩
                                                      · replace c62 := Bool.eq_false_iff.mpr c62
                                                        subst c62
                                                        have H1 : (if 0 ≤ (rd x11_4 x13_4) then (if (rd x11_4 x13_4) < (x7_5.length : Int) then (if x11_5.length < 17592186044416 then (aditref3_Field.l4 kj36 l0 l1 (x7_5.set ((ji44) : Int).toNat (wrap64 ((rd x7_5 (rd x11_4 x13_4)) + 1))) (x11_5 ++ [ji44]) x13_4 (rd x11_4 x13_4) (wrap64 (x15_5 + 1))) else (none)) else (none)) else (none)) = some r := by rw [if_neg (show ¬ (false = true) by decide)] at H; exact H
                                                        clear H
                                                        have H := H1
                                                        clear H1
                                                        by_cases c64 : 0 ≤ (rd x11_4 x13_4)
                                                        · rw [if_pos c64] at H
                                                          have c64b0 : decide (0 ≤ (rd x11_4 x13_4)) = true := decide_eq_true c64
                                                          clear c64
                                                          by_cases c65 : (rd x11_4 x13_4) < (x7_5.length : Int)
                                                          · rw [if_pos c65] at H
                                                            have c65b0 : decide ((rd x11_4 x13_4) < (x7_5.length : Int)) = true := decide_eq_true c65
                                                            clear c65
                                                            obtain ⟨y187, hy187⟩ : ∃ y_ : List Int, y_ = (x7_5.set ((ji44) : Int).toNat (wrap64 ((rd x7_5 (rd x11_4 x13_4)) + 1))) := ⟨_, rfl⟩
                                                            replace H : (if x11_5.length < 17592186044416 then (aditref3_Field.l4 kj36 l0 l1 y187 (x11_5 ++ [ji44]) x13_4 (rd x11_4 x13_4) (wrap64 (x15_5 + 1))) else (none)) = some r := by first | (rw [hy187]; with_reducible exact H) | (have H2_ := (Option.bind_some _ _).symm.trans H; rw [hy187]; with_reducible exact H2_) | (have H2_ := (Option.bind_some _ _).symm.trans H; with_reducible exact H2_) | with_reducible exact H | (rw [hy187]; exact H) | exact H
                                                            have Ny187 := Aside0.mk hy187
                                                            clear hy187
                                                            by_cases c67 : x11_5.length < 17592186044416
                                                            · rw [if_pos c67] at H
                                                              have LMc67 := Aside0.mk c67
                                                              clear c67
                                                              obtain ⟨y188, hy188⟩ : ∃ y_ : List Int, y_ = (x11_5 ++ [ji44]) := ⟨_, rfl⟩
                                                              replace H : (aditref3_Field.l4 kj36 l0 l1 y187 y188 x13_4 (rd x11_4 x13_4) (wrap64 (x15_5 + 1))) = some r := by first | (rw [hy188]; with_reducible exact H) | (have H2_ := (Option.bind_some _ _).symm.trans H; rw [hy188]; with_reducible exact H2_) | (have H2_ := (Option.bind_some _ _).symm.trans H; with_reducible exact H2_) | with_reducible exact H | (rw [hy188]; exact H) | exact H
                                                              have Ny188 := Aside0.mk hy188
                                                              clear hy188
                                                              have H' := Aside0.mk H
                                                              clear H
                                                              go_wp2_with (first | ((with_reducible refine gate_callee (f := 20) rfl ?_); refine goesL_ (some 109) rfl rfl Try.func20 (by kernel_rfl) rfl #[.int .i64 x16_36, .int .i64 x17_36] rfl (by (try simp only [List.map_toArray, List.map_cons, List.map_nil]); first | done | rfl | (simp only [List.length_drop, List.length_take]; rfl)) ?_; (with_reducible refine (aditref3_In.calls x16_36 x17_36 true _ A42.out).mono ?_); rintro e w' ⟨rfl, ⟨nd, rfl⟩⟩; refine ⟨_, rfl, ?_⟩; (try (rw [drewN_self wc]; generalize hq_ : World.drewN wc _ = wc; have n0_ : Aside0 (Kd.R (Kd.int .i64) 3 wc w.heap.size (fun k_ => some k_ ≠ (v164 : Value).ownBlock) u11 x11_5) := ⟨by rw [← hq_]; exact (by (with_reducible repeat (first | apply Kd.R_alloc | apply Kd.R_drewN | apply Kd.R_drew)); exact HO_11.out)⟩; have n1_ : Aside0 (Kd.R (Kd.int .i64) 3 wc w.heap.size (fun k_ => some k_ ≠ (u11 : Value).ownBlock) v164 x7_5) := ⟨by rw [← hq_]; exact (by (with_reducible repeat (first | apply Kd.R_alloc | apply Kd.R_drewN | apply Kd.R_drew)); exact HO_7.out)⟩; have n2_ : Aside0 (Below w.heap.size w wc) := ⟨by rw [← hq_]; exact (by repeat (first | (with_reducible first | exact HB.out | apply below_alloc | apply pw_below_drewN | apply below_drew1) | exact HB.out))⟩; clear HO_11 HO_7 HB hq_; have HO_11 := n0_; have HO_7 := n1_; have HB := n2_; clear n0_ n1_ n2_)); obtain ⟨Ao68, co68, eo68⟩ := Kd.R_slice HO_7.out; subst eo68; have p177 : 0 ≤ ((ji44) : Int) := of_decide_eq_true (by first | (with_reducible assumption) | assumption); have q177 : (ji44) < (x7_5.length : Int) := of_decide_eq_true (by first | (with_reducible assumption) | assumption); obtain ⟨ad177, e177, hx177_0⟩ := Kd.at_int (Kd.R_reads' HO_7.out).2.2 (ji44) p177 q177; cases e177; replace p177 := eq_true p177; replace q177 := eq_true q177) | (go_at_call 28; (with_reducible refine (aditref3_At.calls _ _ l0 x16_36 x17_36 t178 _ ?side1 ?side2 A48.out).mono ?_); (case side1 => repeat (first | exact (Kd.C_below HR0.out HB.out) | (with_reducible refine Kd.C_alloc ?_ _) | (with_reducible refine Kd.C_drewN ?_ _) | (with_reducible refine Kd.C_drew ?_))); (case side2 => exact HC0.out); rintro e w' ⟨rfl, ⟨nd, rfl⟩⟩; (try (rw [drewN_self wc]; generalize hq_ : World.drewN wc _ = wc; have n0_ : Aside0 (Kd.R (Kd.int .i64) 3 wc w.heap.size (fun k_ => some k_ ≠ (.slice (some ad177) x7_5.length co68 : Value).ownBlock) u11 x11_5) := ⟨by rw [← hq_]; exact (by (with_reducible repeat (first | apply Kd.R_alloc | apply Kd.R_drewN | apply Kd.R_drew)); exact HO_11.out)⟩; have n1_ : Aside0 (Kd.R (Kd.int .i64) 3 wc w.heap.size (fun k_ => some k_ ≠ (u11 : Value).ownBlock) (.slice (some ad177) x7_5.length co68) x7_5) := ⟨by rw [← hq_]; exact (by (with_reducible repeat (first | apply Kd.R_alloc | apply Kd.R_drewN | apply Kd.R_drew)); exact HO_7.out)⟩; have n2_ : Aside0 (Below w.heap.size w wc) := ⟨by rw [← hq_]; exact (by repeat (first | (with_reducible first | exact HB.out | apply below_alloc | apply pw_below_drewN | apply below_drew1) | exact HB.out))⟩; clear HO_11 HO_7 HB hq_; have HO_11 := n0_; have HO_7 := n1_; have HB := n2_; clear n0_ n1_ n2_))) | (go_at_call 19; (with_reducible refine (aditref3_Walk.calls t178 true _ A49.out).mono ?_); rintro e w' ⟨rfl, ⟨nd, rfl⟩⟩; (try (rw [drewN_self wc]; generalize hq_ : World.drewN wc _ = wc; have n0_ : Aside0 (Kd.R (Kd.int .i64) 3 wc w.heap.size (fun k_ => some k_ ≠ (.slice (some ad177) x7_5.length co68 : Value).ownBlock) u11 x11_5) := ⟨by rw [← hq_]; exact (by (with_reducible repeat (first | apply Kd.R_alloc | apply Kd.R_drewN | apply Kd.R_drew)); exact HO_11.out)⟩; have n1_ : Aside0 (Kd.R (Kd.int .i64) 3 wc w.heap.size (fun k_ => some k_ ≠ (u11 : Value).ownBlock) (.slice (some ad177) x7_5.length co68) x7_5) := ⟨by rw [← hq_]; exact (by (with_reducible repeat (first | apply Kd.R_alloc | apply Kd.R_drewN | apply Kd.R_drew)); exact HO_7.out)⟩; have n2_ : Aside0 (Below w.heap.size w wc) := ⟨by rw [← hq_]; exact (by repeat (first | (with_reducible first | exact HB.out | apply below_alloc | apply pw_below_drewN | apply below_drew1) | exact HB.out))⟩; clear HO_11 HO_7 HB hq_; have HO_11 := n0_; have HO_7 := n1_; have HB := n2_; clear n0_ n1_ n2_)); have p185 : 0 ≤ ((ji44) : Int) := of_decide_eq_true (by first | (with_reducible assumption) | assumption); have q185 : (ji44) < (l1.length : Int) := of_decide_eq_true (by first | (with_reducible assumption) | assumption); obtain ⟨ad185, e185, hx185_0⟩ := Kd.at_bool HR1.out (ji44) p185 q185; (try rw [← Nbq61.out] at hx185_0); cases e185; replace hx185_0 := (HB.out.cell (World.block_lt_of_cell? w _ hx185_0)).trans hx185_0; replace p185 := eq_true p185; replace q185 := eq_true q185; have p186 : 0 ≤ ((rd x11_4 x13_4) : Int) := of_decide_eq_true (by first | (with_reducible assumption) | assumption); have q186 : (rd x11_4 x13_4) < (x7_5.length : Int) := of_decide_eq_true (by first | (with_reducible assumption) | assumption); obtain ⟨ad186, e186, hx186_0⟩ := Kd.at_int (Kd.R_reads' HO_7.out).2.2 (rd x11_4 x13_4) p186 q186; obtain rfl : ad177 = ad186 := (by injection e186); replace p186 := eq_true p186; replace q186 := eq_true q186; have p66 : 0 ≤ ((ji44) : Int) := of_decide_eq_true (by first | (with_reducible assumption) | assumption); have q66 : ((ji44) : Int) < ((x7_5.length : Int) : Int) := of_decide_eq_true (by first | (with_reducible assumption) | assumption); obtain ⟨go66, co66, eo66, gb66, gl66, cl66, HG66⟩ := Kd.R_form HO_7.out (by omega); (first | cases eo66 | (injection eo66 with ea_ en_ ec_; (first | subst ea_ | (injection ea_ with ea_; subst ea_)); subst ec_; clear en_)); have GB66 := Aside0.mk gb66; have GG66 := Aside0.mk HG66; clear gb66 gl66 HG66; (first | simp only [add_plain] at hx177_0 | skip); (first | simp only [add_plain] at hx186_0 | skip); obtain ⟨hx66_0, hf66_0⟩ := Kd.R_celln 0 HO_7.out ((ji44) : Int) p66 q66; replace p66 := eq_true p66; replace q66 := eq_true q66; obtain ⟨hy69_, hz69_⟩ := Kd.R_celln 0 HO_7.out ((ji44) : Int) (of_decide_eq_true (by first | (with_reducible assumption) | assumption)) (of_decide_eq_true (by first | (with_reducible assumption) | assumption)); have HP69 := Kd.R_putg HO_7.out ((ji44) : Int) (wrap64 ((rd x7_5 (rd x11_4 x13_4)) + 1))) | ((with_reducible refine gate_store (t := 3) (p := 144) rfl ?_); refine store_event (t := 3) (p := 144) (v := ?vo_w70) (w1 := (wc.setCell ⟨go66, ((ji44) : Int).toNat, none⟩ (.int .i64 (wrap64 ((rd x7_5 (rd x11_4 x13_4)) + 1))))) ?hg ?ho ?hn ?hr ?_; (case ho => rfl); (case hg => rfl); (case hn => rfl); (case hr => first | (go_simp; done) | (go_simp; rfl)); intro w70 hw; have hg : wc.grownBy w70 (some go66) := (by rw [hw]; exact HP69.2); have hp_ : Kd.R (Kd.int .i64) 3 w70 w.heap.size (fun k_ => some k_ ≠ (u11 : Value).ownBlock) (.slice (some ⟨go66, 0, none⟩) x7_5.length co68) y187 := (by rw [hw, Ny187.out]; exact HP69.1); clear HP69; have n0_ := Aside0.mk (hp_); have n1_ := Aside0.mk (Kd.R_after (v := (.slice (some ⟨go66, 0, none⟩) x7_5.length co68)) (v1 := (.slice (some ⟨go66, 0, none⟩) x7_5.length co68)) (ok := (fun _ => True)) (by (with_reducible repeat (first | apply Kd.R_alloc | apply Kd.R_drewN | apply Kd.R_drew)); exact Kd.R_mono HO_11.out (fun _ hk => ⟨trivial, hk⟩)) hg (.inl rfl)); have n2_ := Aside0.mk ((by rw [hw]; exact below_set (HB.out) GB66.out : Below w.heap.size w w70)); clear HO_7; clear HO_11; clear HB; have HO_7 := n0_; have HO_11 := n1_; have HB := n2_; clear n0_ n1_ n2_; clear hg hw hp_) | ((with_reducible refine gate_builtin (b := .append) (xs := #[.tmp 145, .tmp 147]) rfl ?_); (try (refine gate_guard (by rfl) ?_; dsimp only)); at_builtin; refine Kd.R_append (Kd.int .i64) (w0 := w) w.heap.size rfl (.tmp 145) (.tmp 147) 24 3 (.int .i64 0) 8 rfl Try.underlying24 info3 rfl (by decide) (by omega) u11 x11_5 ji44 [.int .i64 ji44] (fun k_ => some k_ ≠ (.slice (some ⟨go66, 0, none⟩) x7_5.length co68 : Value).ownBlock) (fun _ => False) rfl rfl ?aP (fun _ hk => hk.elim) ?aF ?aO ?aB ?aS ?aL ?_; (case aP => exact rfl); (case aB => exact (by repeat (first | (with_reducible first | exact HB.out | apply below_alloc | apply pw_below_drewN | apply below_drew1) | exact HB.out))); (case aF => exact (fun k_ hk => Kd.fresh' (Kd.R_lt (by (with_reducible repeat (first | apply Kd.R_alloc | apply Kd.R_drewN | apply Kd.R_drew)); exact HO_7.out)) k_ hk)); (case aO => exact (by (with_reducible repeat (first | apply Kd.R_alloc | apply Kd.R_drewN | apply Kd.R_drew)); exact Kd.R_mono HO_11.out (fun _ hk => hk.2))); (case aS => exact (below_size (by repeat (first | (with_reducible first | exact HB.out | apply below_alloc | apply pw_below_drewN | apply below_drew1) | exact HB.out)))); (case aL => have := LMc67.out; omega); intro v189 w71 ho hb hg hat; rw [← Ny188.out] at ho; have n0_ := Aside0.mk (Kd.R_after (ok := (fun _ => True)) (by (with_reducible repeat (first | apply Kd.R_alloc | apply Kd.R_drewN | apply Kd.R_drew)); exact Kd.R_mono HO_7.out (fun _ hk => ⟨trivial, hk⟩)) hg hat); have n1_ := Aside0.mk (hb); have n2_ := Aside0.mk (ho); clear HO_7; clear HB; clear HO_11; have HO_7 := n0_; have HB := n1_; have HO190 := n2_; clear n0_ n1_ n2_; clear ho hb hg hat))
                                                              go_roundg kj36
                                                              case measure => have := HK1.out; have := HK2.out; have := HK3.out; have := HK4.out; have := HK5.out; have := HJ36.out; omega
                                                              case rel => exact ⟨(y187), (y188), (wrap64 (x15_5 + 1)), (by first | rfl | (simp; done) | (simp [*]; done)), H', ⟨by have := HK1.out; have := HK2.out; have := HK3.out; have := HK4.out; have := HK5.out; have := HJ36.out; omega⟩, ⟨by (with_reducible repeat (first | apply Kd.R_alloc | apply Kd.R_drewN | apply Kd.R_drew)); exact Kd.R_mono HO_7.out (fun _ hk => hk.2)⟩, ⟨by (with_reducible repeat (first | apply Kd.R_alloc | apply Kd.R_drewN | apply Kd.R_drew)); exact HO190.out⟩, ⟨by repeat (first | (with_reducible first | exact HB.out | apply below_alloc | apply pw_below_drewN | apply below_drew1) | exact HB.out)⟩⟩
                                                            · rw [if_neg c67] at H
                                                              exact absurd H (by simp)
                                                          · rw [if_neg c65] at H
                                                            exact absurd H (by simp)
                                                        · rw [if_neg c64] at H
                                                          exact absurd H (by simp)
                                                    · rw [if_neg c60] at H
                                                      exact absurd H (by simp)
                                                · replace c50 := Bool.eq_false_iff.mpr c50
                                                  subst c50
                                                  have H1 : (aditref3_Field.l4 kj36 l0 l1 x7_5 x11_5 x13_4 (rd x11_4 x13_4) (wrap64 (x15_5 + 1))) = some r := by rw [if_neg (show ¬ (false = true) by decide)] at H; exact H
                                                  clear H
                                                  have H := H1
                                                  clear H1
                                                  have H' := Aside0.mk H
                                                  clear H
                                                  go_wp2_with (first | ((with_reducible refine gate_callee (f := 20) rfl ?_); refine goesL_ (some 109) rfl rfl Try.func20 (by kernel_rfl) rfl #[.int .i64 x16_36, .int .i64 x17_36] rfl (by (try simp only [List.map_toArray, List.map_cons, List.map_nil]); first | done | rfl | (simp only [List.length_drop, List.length_take]; rfl)) ?_; (with_reducible refine (aditref3_In.calls x16_36 x17_36 true _ A42.out).mono ?_); rintro e w' ⟨rfl, ⟨nd, rfl⟩⟩; refine ⟨_, rfl, ?_⟩; obtain ⟨Ao72, co72, eo72⟩ := Kd.R_slice HO_7.out; subst eo72; have p177 : 0 ≤ ((ji44) : Int) := of_decide_eq_true (by first | (with_reducible assumption) | assumption); have q177 : (ji44) < (x7_5.length : Int) := of_decide_eq_true (by first | (with_reducible assumption) | assumption); obtain ⟨ad177, e177, hx177_0⟩ := Kd.at_int (Kd.R_reads' HO_7.out).2.2 (ji44) p177 q177; cases e177; replace p177 := eq_true p177; replace q177 := eq_true q177) | (go_at_call 28; (with_reducible refine (aditref3_At.calls _ _ l0 x16_36 x17_36 t178 _ ?side1 ?side2 A48.out).mono ?_); (case side1 => repeat (first | exact (Kd.C_below HR0.out (by repeat (first | (with_reducible first | exact HB.out | apply below_alloc | apply pw_below_drewN | apply below_drew1) | exact HB.out))) | (with_reducible refine Kd.C_alloc ?_ _) | (with_reducible refine Kd.C_drewN ?_ _) | (with_reducible refine Kd.C_drew ?_))); (case side2 => exact HC0.out); rintro e w' ⟨rfl, ⟨nd, rfl⟩⟩) | (go_at_call 19; (with_reducible refine (aditref3_Walk.calls t178 false _ A49.out).mono ?_); rintro e w' ⟨rfl, ⟨nd, rfl⟩⟩))
                                                  go_roundg kj36
                                                  case measure => have := HK1.out; have := HK2.out; have := HK3.out; have := HK4.out; have := HK5.out; have := HJ36.out; omega
                                                  case rel => exact ⟨(x7_5), (x11_5), (wrap64 (x15_5 + 1)), (by first | rfl | (simp; done) | (simp [*]; done)), H', ⟨by have := HK1.out; have := HK2.out; have := HK3.out; have := HK4.out; have := HK5.out; have := HJ36.out; omega⟩, ⟨by (with_reducible repeat (first | apply Kd.R_alloc | apply Kd.R_drewN | apply Kd.R_drew)); exact HO_7.out⟩, ⟨by (with_reducible repeat (first | apply Kd.R_alloc | apply Kd.R_drewN | apply Kd.R_drew)); exact HO_11.out⟩, ⟨by repeat (first | (with_reducible first | exact HB.out | apply below_alloc | apply pw_below_drewN | apply below_drew1) | exact HB.out)⟩⟩
                                              · rw [if_neg c47] at H
                                                have c47b0 : decide ((rd x7_5 (ji44)) < 0) = false := decide_eq_false c47
                                                clear c47
                                                have H' := Aside0.mk H
                                                clear H
                                                go_wp2_with (first | ((with_reducible refine gate_callee (f := 20) rfl ?_); refine goesL_ (some 109) rfl rfl Try.func20 (by kernel_rfl) rfl #[.int .i64 x16_36, .int .i64 x17_36] rfl (by (try simp only [List.map_toArray, List.map_cons, List.map_nil]); first | done | rfl | (simp only [List.length_drop, List.length_take]; rfl)) ?_; (with_reducible refine (aditref3_In.calls x16_36 x17_36 true _ A42.out).mono ?_); rintro e w' ⟨rfl, ⟨nd, rfl⟩⟩; refine ⟨_, rfl, ?_⟩; obtain ⟨Ao73, co73, eo73⟩ := Kd.R_slice HO_7.out; subst eo73; have p177 : 0 ≤ ((ji44) : Int) := of_decide_eq_true (by first | (with_reducible assumption) | assumption); have q177 : (ji44) < (x7_5.length : Int) := of_decide_eq_true (by first | (with_reducible assumption) | assumption); obtain ⟨ad177, e177, hx177_0⟩ := Kd.at_int (Kd.R_reads' HO_7.out).2.2 (ji44) p177 q177; cases e177; replace p177 := eq_true p177; replace q177 := eq_true q177))
                                                go_roundg kj36
                                                case measure => have := HK1.out; have := HK2.out; have := HK3.out; have := HK4.out; have := HK5.out; have := HJ36.out; omega
                                                case rel => exact ⟨(x7_5), (x11_5), (wrap64 (x15_5 + 1)), (by first | rfl | (simp; done) | (simp [*]; done)), H', ⟨by have := HK1.out; have := HK2.out; have := HK3.out; have := HK4.out; have := HK5.out; have := HJ36.out; omega⟩, ⟨by (with_reducible repeat (first | apply Kd.R_alloc | apply Kd.R_drewN | apply Kd.R_drew)); exact HO_7.out⟩, ⟨by (with_reducible repeat (first | apply Kd.R_alloc | apply Kd.R_drewN | apply Kd.R_drew)); exact HO_11.out⟩, ⟨by repeat (first | (with_reducible first | exact HB.out | apply below_alloc | apply pw_below_drewN | apply below_drew1) | exact HB.out)⟩⟩
                                            · rw [if_neg c46] at H
                                              exact absurd H (by simp)
                                          · rw [if_neg c45] at H
                                            exact absurd H (by simp)
                                        · replace c43 := Bool.eq_false_iff.mpr c43
                                          subst c43
                                          have H1 : (aditref3_Field.l4 kj36 l0 l1 x7_5 x11_5 x13_4 (rd x11_4 x13_4) (wrap64 (x15_5 + 1))) = some r := by rw [if_neg (show ¬ (false = true) by decide)] at H; exact H
                                          clear H
                                          have H := H1
                                          clear H1
                                          have H' := Aside0.mk H
                                          clear H
                                          go_wp2_with (first | ((with_reducible refine gate_callee (f := 20) rfl ?_); refine goesL_ (some 109) rfl rfl Try.func20 (by kernel_rfl) rfl #[.int .i64 x16_36, .int .i64 x17_36] rfl (by (try simp only [List.map_toArray, List.map_cons, List.map_nil]); first | done | rfl | (simp only [List.length_drop, List.length_take]; rfl)) ?_; (with_reducible refine (aditref3_In.calls x16_36 x17_36 false _ A42.out).mono ?_); rintro e w' ⟨rfl, ⟨nd, rfl⟩⟩; refine ⟨_, rfl, ?_⟩))
                                          go_roundg kj36
                                          case measure => have := HK1.out; have := HK2.out; have := HK3.out; have := HK4.out; have := HK5.out; have := HJ36.out; omega
                                          case rel => exact ⟨(x7_5), (x11_5), (wrap64 (x15_5 + 1)), (by first | rfl | (simp; done) | (simp [*]; done)), H', ⟨by have := HK1.out; have := HK2.out; have := HK3.out; have := HK4.out; have := HK5.out; have := HJ36.out; omega⟩, ⟨by (with_reducible repeat (first | apply Kd.R_alloc | apply Kd.R_drewN | apply Kd.R_drew)); exact HO_7.out⟩, ⟨by (with_reducible repeat (first | apply Kd.R_alloc | apply Kd.R_drewN | apply Kd.R_drew)); exact HO_11.out⟩, ⟨by repeat (first | (with_reducible first | exact HB.out | apply below_alloc | apply pw_below_drewN | apply below_drew1) | exact HB.out)⟩⟩
                                  · rw [if_neg c36] at H
                                    have c36b0 : decide (x15_5 < 4) = false := decide_eq_false c36
                                    clear c36
                                    have H' := Aside0.mk H
                                    clear H
                                    go_wp2
                                    go_roundg k5
                                    case measure => have := HK1.out; have := HK2.out; have := HK3.out; have := HK4.out; have := HK5.out; omega
                                    case rel => exact ⟨(x7_5), (x11_5), (wrap64 (x13_4 + 1)), (by first | rfl | (simp; done) | (simp [*]; done)), H', ⟨by have := HK1.out; have := HK2.out; have := HK3.out; have := HK4.out; have := HK5.out; omega⟩, ⟨by (with_reducible repeat (first | apply Kd.R_alloc | apply Kd.R_drewN | apply Kd.R_drew)); exact HO_7.out⟩, ⟨by (with_reducible repeat (first | apply Kd.R_alloc | apply Kd.R_drewN | apply Kd.R_drew)); exact HO_11.out⟩, ⟨by repeat (first | (with_reducible first | exact HB.out | apply below_alloc | apply pw_below_drewN | apply below_drew1) | exact HB.out)⟩⟩
                            · rw [if_neg c34] at H
                              exact absurd H (by simp)
                          · rw [if_neg c33] at H
                            have c33b0 : decide (x13_4 < (x11_4.length : Int)) = false := decide_eq_false c33
                            clear c33
                            obtain rfl := Option.some.inj H
                            obtain ⟨Ao74, co74, eo74⟩ := Kd.R_slice HO_11.out
                            subst eo74
                            go_wp2
                            go_ret
                            exact ⟨_, by first | rfl | (simp [errW_none, errW_some] <;> rfl) | (simp [*, errW_none, errW_some] <;> rfl), by (with_reducible repeat (first | apply Kd.R_alloc | apply Kd.R_drewN | apply Kd.R_drew)); exact Kd.R_mono HO_7.out (fun _ hk => trivial), by repeat (first | (with_reducible first | exact HB.out | apply below_alloc | apply pw_below_drewN | apply below_drew1) | exact HB.out)⟩
  · rw [if_neg c4] at H
    exact absurd H (by simp)

end Go.Proofs.Ytjpcmpeigoikkaa.Q

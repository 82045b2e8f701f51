/- By a program of this session's own, over the translation and the contracts by hand: each function's answers as a Lean function, and that the code comes to them. -/
import Derived.Test.YtkdbglmkpkliaaaQ0
import Derived.Test.YtkdbglmkpkliaaaQ1
import Derived.Test.YtkdbglmkpkliaaaQ2
import Derived.Test.YtkdbglmkpkliaaaQ5
namespace Go.Proofs.Ytkdbglmkpkliaaa.Q
open Go.RowKit Go.Proofs.YtkdbglmkpkliaaaW.PrintWords Go.Proofs.YtkdbglmkpkliaaaW.PrintLast Go.Proofs.YtkdbglmkpkliaaaW.PrintMore
attribute [local go_sem] max2_int min2_int max_two min_two max_three min_three max_four min_four   -- for this text's walks alone
set_option linter.unusedVariables false
set_option linter.unusedSimpArgs false

/-! ### aditlaw1_FixRoots: function 4 -/
def aditlaw1_FixRoots.j0 : Nat → Int → Int → Bool → Option (Bool)
  | 0, _, _, _ => none
  | k + 1, x1, x2, x45 => if x45 = true then (some false) else ((aditlaw1_within.f x1 2097153).bind fun t138 => ((aditlaw1_within.f x2 2097153).bind fun t139 => ((fix_Dist.f k (wrap64 (t138 - 1048576)) (wrap64 (t139 - 1048576))).bind fun t140 => ((aditref1_Dist.f k (wrap64 (t138 - 1048576)) (wrap64 (t139 - 1048576))).bind fun t141 => (if t140 = t141 then ((fix_Dist.f k (wrap64 (t138 - 1048576)) (wrap64 (t139 - 1048576))).bind fun t142 => ((fix_Dist.f k (wrap64 (-(wrap64 (t139 - 1048576)))) (wrap64 (t138 - 1048576))).bind fun t143 => (some (t142 == t143)))) else (some false))))))
def aditlaw1_FixRoots.f (k : Nat) (a0 : Int) (a1 : Int) (a2 : Int) : Option (Bool) := (aditlaw1_known.f k).bind fun t135 => (if t135 = true then ((fix_Root.f k a0).bind fun t136 => ((aditref1_Root.f k a0).bind fun t137 => (if t136 = t137 then (if a0 ≥ 0 then (if a0 < 4611686018427387904 then (if (wrap64 (t136 * t136)) > a0 then (aditlaw1_FixRoots.j0 k a1 a2 true) else (if (wrap64 ((wrap64 (t136 + 1)) * (wrap64 (t136 + 1)))) ≤ a0 then (aditlaw1_FixRoots.j0 k a1 a2 true) else (if a0 < 0 then (aditlaw1_FixRoots.j0 k a1 a2 (t136 != 0)) else (aditlaw1_FixRoots.j0 k a1 a2 false)))) else (if a0 < 0 then (aditlaw1_FixRoots.j0 k a1 a2 (t136 != 0)) else (aditlaw1_FixRoots.j0 k a1 a2 false))) else (if a0 < 0 then (aditlaw1_FixRoots.j0 k a1 a2 (t136 != 0)) else (aditlaw1_FixRoots.j0 k a1 a2 false))) else (some false)))) else (some false))
theorem aditlaw1_FixRoots.mono_l : ∀ k, (∀ y0 y1 y2, LeO (aditlaw1_FixRoots.j0 k y0 y1 y2) (aditlaw1_FixRoots.j0 (k + 1) y0 y1 y2))
  | 0 => fun _ _ _ r h => by simp [aditlaw1_FixRoots.j0] at h
  | k + 1 => by
    have ih0 := aditlaw1_FixRoots.mono_l k
    · intro y0 y1 y2
      unfold aditlaw1_FixRoots.j0
      repeat' first
      | (with_reducible exact ih0 _ _ _)
      | (with_reducible exact aditlaw1_known.mono _)
      | (with_reducible exact aditref1_Dist.mono _ _ _)
      | (with_reducible exact aditref1_Root.mono _ _)
      | (with_reducible exact fix_Dist.mono _ _ _)
      | (with_reducible exact fix_Root.mono _ _)
      | (with_reducible exact LeO.refl _)
      | (with_reducible exact LeO.none _)
      | (with_reducible refine LeO.ite ?_ ?_)
      | (with_reducible refine LeO.bind ?_ (fun _ => ?_))
      | exact ih0 _ _ _
      | exact aditlaw1_known.mono _
      | exact aditref1_Dist.mono _ _ _
      | exact aditref1_Root.mono _ _
      | exact fix_Dist.mono _ _ _
      | exact fix_Root.mono _ _
      | exact LeO.none _
      | refine LeO.ite ?_ ?_
      | refine LeO.bind ?_ (fun _ => ?_)
theorem aditlaw1_FixRoots.mono : ∀ a0 a1 a2 k, LeO (aditlaw1_FixRoots.f k a0 a1 a2) (aditlaw1_FixRoots.f (k + 1) a0 a1 a2) := by
  intro a0 a1 a2 k
  have ih0 := aditlaw1_FixRoots.mono_l k
  unfold aditlaw1_FixRoots.f
  repeat' first
      | (with_reducible exact ih0 _ _ _)
      | (with_reducible exact aditlaw1_known.mono _)
      | (with_reducible exact aditref1_Dist.mono _ _ _)
      | (with_reducible exact aditref1_Root.mono _ _)
      | (with_reducible exact fix_Dist.mono _ _ _)
      | (with_reducible exact fix_Root.mono _ _)
      | (with_reducible exact LeO.refl _)
      | (with_reducible exact LeO.none _)
      | (with_reducible refine LeO.ite ?_ ?_)
      | (with_reducible refine LeO.bind ?_ (fun _ => ?_))
      | exact ih0 _ _ _
      | exact aditlaw1_known.mono _
      | exact aditref1_Dist.mono _ _ _
      | exact aditref1_Root.mono _ _
      | exact fix_Dist.mono _ _ _
      | exact fix_Root.mono _ _
      | exact LeO.none _
      | refine LeO.ite ?_ ?_
      | refine LeO.bind ?_ (fun _ => ?_)
set_option maxHeartbeats 8000000 in
set_option maxRecDepth 100000 in
theorem aditlaw1_FixRoots.calls (k : Nat) (a0 : Int) (a1 : Int) (a2 : Int) (r : Bool) (w : World) (h : aditlaw1_FixRoots.f k a0 a1 a2 = some r) :
    Calls Try.prog 4 #[.int .i64 a0, .int .i64 a1, .int .i64 a2] w fun e w' => e = .returned (.bool r) ∧ Drawn0 w w' := by
  have H : ((aditlaw1_known.f k).bind fun t135 => (if t135 = true then ((fix_Root.f k a0).bind fun t136 => ((aditref1_Root.f k a0).bind fun t137 => (if t136 = t137 then (if a0 ≥ 0 then (if a0 < 4611686018427387904 then (if (wrap64 (t136 * t136)) > a0 then (aditlaw1_FixRoots.j0 k a1 a2 true) else (if (wrap64 ((wrap64 (t136 + 1)) * (wrap64 (t136 + 1)))) ≤ a0 then (aditlaw1_FixRoots.j0 k a1 a2 true) else (if a0 < 0 then (aditlaw1_FixRoots.j0 k a1 a2 (t136 != 0)) else (aditlaw1_FixRoots.j0 k a1 a2 false)))) else (if a0 < 0 then (aditlaw1_FixRoots.j0 k a1 a2 (t136 != 0)) else (aditlaw1_FixRoots.j0 k a1 a2 false))) else (if a0 < 0 then (aditlaw1_FixRoots.j0 k a1 a2 (t136 != 0)) else (aditlaw1_FixRoots.j0 k a1 a2 false))) else (some false)))) else (some false))) = some r := h
  clear h
  replace H := Option.bind_eq_some_iff.mp H
  obtain ⟨t135, A40, H⟩ := H
  replace H : (if t135 = true then ((fix_Root.f k a0).bind fun t136 => ((aditref1_Root.f k a0).bind fun t137 => (if t136 = t137 then (if a0 ≥ 0 then (if a0 < 4611686018427387904 then (if (wrap64 (t136 * t136)) > a0 then (aditlaw1_FixRoots.j0 k a1 a2 true) else (if (wrap64 ((wrap64 (t136 + 1)) * (wrap64 (t136 + 1)))) ≤ a0 then (aditlaw1_FixRoots.j0 k a1 a2 true) else (if a0 < 0 then (aditlaw1_FixRoots.j0 k a1 a2 (t136 != 0)) else (aditlaw1_FixRoots.j0 k a1 a2 false)))) else (if a0 < 0 then (aditlaw1_FixRoots.j0 k a1 a2 (t136 != 0)) else (aditlaw1_FixRoots.j0 k a1 a2 false))) else (if a0 < 0 then (aditlaw1_FixRoots.j0 k a1 a2 (t136 != 0)) else (aditlaw1_FixRoots.j0 k a1 a2 false))) else (some false)))) else (some false)) = some r := H
  have A4 := Aside0.mk A40
  clear A40
  by_cases c5 : t135 = true
  · subst c5
    have H1 : ((fix_Root.f k a0).bind fun t136 => ((aditref1_Root.f k a0).bind fun t137 => (if t136 = t137 then (if a0 ≥ 0 then (if a0 < 4611686018427387904 then (if (wrap64 (t136 * t136)) > a0 then (aditlaw1_FixRoots.j0 k a1 a2 true) else (if (wrap64 ((wrap64 (t136 + 1)) * (wrap64 (t136 + 1)))) ≤ a0 then (aditlaw1_FixRoots.j0 k a1 a2 true) else (if a0 < 0 then (aditlaw1_FixRoots.j0 k a1 a2 (t136 != 0)) else (aditlaw1_FixRoots.j0 k a1 a2 false)))) else (if a0 < 0 then (aditlaw1_FixRoots.j0 k a1 a2 (t136 != 0)) else (aditlaw1_FixRoots.j0 k a1 a2 false))) else (if a0 < 0 then (aditlaw1_FixRoots.j0 k a1 a2 (t136 != 0)) else (aditlaw1_FixRoots.j0 k a1 a2 false))) else (some false)))) = some r := by rw [if_pos rfl] at H; exact H
    clear H
    have H := H1
    clear H1
    replace H := Option.bind_eq_some_iff.mp H
    obtain ⟨t136, A60, H⟩ := H
    replace H : ((aditref1_Root.f k a0).bind fun t137 => (if t136 = t137 then (if a0 ≥ 0 then (if a0 < 4611686018427387904 then (if (wrap64 (t136 * t136)) > a0 then (aditlaw1_FixRoots.j0 k a1 a2 true) else (if (wrap64 ((wrap64 (t136 + 1)) * (wrap64 (t136 + 1)))) ≤ a0 then (aditlaw1_FixRoots.j0 k a1 a2 true) else (if a0 < 0 then (aditlaw1_FixRoots.j0 k a1 a2 (t136 != 0)) else (aditlaw1_FixRoots.j0 k a1 a2 false)))) else (if a0 < 0 then (aditlaw1_FixRoots.j0 k a1 a2 (t136 != 0)) else (aditlaw1_FixRoots.j0 k a1 a2 false))) else (if a0 < 0 then (aditlaw1_FixRoots.j0 k a1 a2 (t136 != 0)) else (aditlaw1_FixRoots.j0 k a1 a2 false))) else (some false))) = some r := H
    have A6 := Aside0.mk A60
    clear A60
    replace H := Option.bind_eq_some_iff.mp H
    obtain ⟨t137, A70, H⟩ := H
    replace H : (if t136 = t137 then (if a0 ≥ 0 then (if a0 < 4611686018427387904 then (if (wrap64 (t136 * t136)) > a0 then (aditlaw1_FixRoots.j0 k a1 a2 true) else (if (wrap64 ((wrap64 (t136 + 1)) * (wrap64 (t136 + 1)))) ≤ a0 then (aditlaw1_FixRoots.j0 k a1 a2 true) else (if a0 < 0 then (aditlaw1_FixRoots.j0 k a1 a2 (t136 != 0)) else (aditlaw1_FixRoots.j0 k a1 a2 false)))) else (if a0 < 0 then (aditlaw1_FixRoots.j0 k a1 a2 (t136 != 0)) else (aditlaw1_FixRoots.j0 k a1 a2 false))) else (if a0 < 0 then (aditlaw1_FixRoots.j0 k a1 a2 (t136 != 0)) else (aditlaw1_FixRoots.j0 k a1 a2 false))) else (some false)) = some r := H
    have A7 := Aside0.mk A70
    clear A70
    by_cases c8 : t136 = t137
    · rw [if_pos c8] at H
      have c8b0 : (t136 == t137) = true := beq_iff_eq.mpr c8
      have c8b1 : (t136 != t137) = false := bne_eq_false_iff_eq.mpr c8
      clear c8
      have HC9 := Aside0.mk H
      clear H
      go_enter Try.func4, Try.ntmps4
      go_upto_region 6 with (first | ((with_reducible refine gate_callee (f := 11) rfl ?_); refine goesL_ (some 8) rfl rfl Try.func11 (by kernel_rfl) rfl #[] rfl (by (try simp only [List.map_toArray, List.map_cons, List.map_nil]); first | done | rfl | (simp only [List.length_drop, List.length_take]; rfl)) ?_; (with_reducible refine (aditlaw1_known.calls k  true _ A4.out).mono ?_); rintro e w' ⟨rfl, ⟨nd, rfl⟩⟩; refine ⟨_, rfl, ?_⟩) | ((with_reducible refine gate_callee (f := 14) rfl ?_); refine goesL_ (some 11) rfl rfl Try.func14 (by kernel_rfl) rfl #[.int .i64 a0] rfl (by (try simp only [List.map_toArray, List.map_cons, List.map_nil]); first | done | rfl | (simp only [List.length_drop, List.length_take]; rfl)) ?_; (with_reducible refine (fix_Root.calls k a0 t136 _ A6.out).mono ?_); rintro e w' ⟨rfl, ⟨nd, rfl⟩⟩; refine ⟨_, rfl, ?_⟩) | ((with_reducible refine gate_callee (f := 15) rfl ?_); refine goesL_ (some 14) rfl rfl Try.func15 (by kernel_rfl) rfl #[.int .i64 a0] rfl (by (try simp only [List.map_toArray, List.map_cons, List.map_nil]); first | done | rfl | (simp only [List.length_drop, List.length_take]; rfl)) ?_; (with_reducible refine (aditref1_Root.calls k a0 t137 _ A7.out).mono ?_); rintro e w' ⟨rfl, ⟨nd, rfl⟩⟩; refine ⟨_, rfl, ?_⟩))
      (try simp only [Act.put, List.setIfInBounds_toArray, List.set_cons_zero, List.set_cons_succ])
      go_cut [45] (fun v45 wc => ∃ (kq : Nat) (x45_8 : Bool), v45 = .bool x45_8 ∧ Aside0 (aditlaw1_FixRoots.j0 kq a1 a2 x45_8 = some r) ∧ Aside0 (kq ≤ k) ∧ Drawn0 w wc)
      case first =>
        have H := HC9.out
        clear HC9
        by_cases c10 : a0 ≥ 0
        · rw [if_pos c10] at H
          have c10b0 : decide (0 ≤ a0) = true := decide_eq_true c10
          clear c10
          (first | rw [c10b0] | (simp only [i64_w, i32_w]; rw [c10b0]) | skip)
          by_cases c11 : a0 < 4611686018427387904
          · rw [if_pos c11] at H
            have c11b0 : decide (a0 < 4611686018427387904) = true := decide_eq_true c11
            clear c11
            by_cases c12 : (wrap64 (t136 * t136)) > a0
            · rw [if_pos c12] at H
              have c12b0 : decide (a0 < (wrap64 (t136 * t136))) = true := decide_eq_true c12
              clear c12
              have H' := Aside0.mk H
              clear H
              go_wp2
              go_meet
              case rel => exact ⟨_, (true), (by first | rfl | (simp; done) | (simp [*]; done)), H', ⟨by first | omega | exact Nat.le_refl _⟩, by repeat (first | exact Drawn0.refl _ | apply Drawn0.step)⟩
            · rw [if_neg c12] at H
              have c12b0 : decide (a0 < (wrap64 (t136 * t136))) = false := decide_eq_false c12
              clear c12
              by_cases c13 : (wrap64 ((wrap64 (t136 + 1)) * (wrap64 (t136 + 1)))) ≤ a0
              · rw [if_pos c13] at H
                have c13b0 : decide ((wrap64 ((wrap64 (t136 + 1)) * (wrap64 (t136 + 1)))) ≤ a0) = true := decide_eq_true c13
                clear c13
                have H' := Aside0.mk H
                clear H
                go_wp2
                go_meet
                case rel => exact ⟨_, (true), (by first | rfl | (simp; done) | (simp [*]; done)), H', ⟨by first | omega | exact Nat.le_refl _⟩, by repeat (first | exact Drawn0.refl _ | apply Drawn0.step)⟩
              · rw [if_neg c13] at H
                have c13b0 : decide ((wrap64 ((wrap64 (t136 + 1)) * (wrap64 (t136 + 1)))) ≤ a0) = false := decide_eq_false c13
                clear c13
                by_cases c14 : a0 < 0
                · rw [if_pos c14] at H
                  have c14b0 : decide (a0 < 0) = true := decide_eq_true c14
                  clear c14
                  have H' := Aside0.mk H
                  clear H
                  go_wp2
                  go_meet
                  case rel => exact ⟨_, ((t136 != 0)), (by first | rfl | (simp; done) | (simp [*]; done)), H', ⟨by first | omega | exact Nat.le_refl _⟩, by repeat (first | exact Drawn0.refl _ | apply Drawn0.step)⟩
                · rw [if_neg c14] at H
                  have c14b0 : decide (a0 < 0) = false := decide_eq_false c14
                  clear c14
                  have H' := Aside0.mk H
                  clear H
                  go_wp2
                  go_meet
                  case rel => exact ⟨_, (false), (by first | rfl | (simp; done) | (simp [*]; done)), H', ⟨by first | omega | exact Nat.le_refl _⟩, by repeat (first | exact Drawn0.refl _ | apply Drawn0.step)⟩
          · rw [if_neg c11] at H
            have c11b0 : decide (a0 < 4611686018427387904) = false := decide_eq_false c11
            clear c11
            by_cases c15 : a0 < 0
            · rw [if_pos c15] at H
              have c15b0 : decide (a0 < 0) = true := decide_eq_true c15
              clear c15
              have H' := Aside0.mk H
              clear H
              go_wp2
              go_meet
              case rel => exact ⟨_, ((t136 != 0)), (by first | rfl | (simp; done) | (simp [*]; done)), H', ⟨by first | omega | exact Nat.le_refl _⟩, by repeat (first | exact Drawn0.refl _ | apply Drawn0.step)⟩
            · rw [if_neg c15] at H
              have c15b0 : decide (a0 < 0) = false := decide_eq_false c15
              clear c15
              have H' := Aside0.mk H
              clear H
              go_wp2
              go_meet
              case rel => exact ⟨_, (false), (by first | rfl | (simp; done) | (simp [*]; done)), H', ⟨by first | omega | exact Nat.le_refl _⟩, by repeat (first | exact Drawn0.refl _ | apply Drawn0.step)⟩
        · rw [if_neg c10] at H
          have c10b0 : decide (0 ≤ a0) = false := decide_eq_false c10
          clear c10
          (first | rw [c10b0] | (simp only [i64_w, i32_w]; rw [c10b0]) | skip)
          by_cases c16 : a0 < 0
          · rw [if_pos c16] at H
            have c16b0 : decide (a0 < 0) = true := decide_eq_true c16
            clear c16
            have H' := Aside0.mk H
            clear H
            go_wp2
            go_meet
            case rel => exact ⟨_, ((t136 != 0)), (by first | rfl | (simp; done) | (simp [*]; done)), H', ⟨by first | omega | exact Nat.le_refl _⟩, by repeat (first | exact Drawn0.refl _ | apply Drawn0.step)⟩
          · rw [if_neg c16] at H
            have c16b0 : decide (a0 < 0) = false := decide_eq_false c16
            clear c16
            have H' := Aside0.mk H
            clear H
            go_wp2
            go_meet
            case rel => exact ⟨_, (false), (by first | rfl | (simp; done) | (simp [*]; done)), H', ⟨by first | omega | exact Nat.le_refl _⟩, by repeat (first | exact Drawn0.refl _ | apply Drawn0.step)⟩
      case rest =>
        clear HC9
        try clear c1
        try clear p2
        try clear c4
        try clear c5
        try clear p6
        try clear c8
        try clear c8b0
        try clear c8b1
        try clear c10
        try clear c10b0
        try clear c11
        try clear c11b0
        try clear c12
        try clear c12b0
        try clear c13
        try clear c13b0
        try clear c14
        try clear c14b0
        try clear c15
        try clear c15b0
        try clear c16
        try clear c16b0
        obtain ⟨kq, x45_8, rfl, HA, HJ8, ⟨mc8, rfl⟩⟩ := hcut
        cases kq with
        | zero => exact absurd HA.out (by simp [aditlaw1_FixRoots.j0])
        | succ kj8 =>
          have H := HA.out
          clear HA
          simp only [aditlaw1_FixRoots.j0] at H
          by_cases c17 : x45_8 = true
          · subst c17
            have H1 : (some false) = some r := by rw [if_pos rfl] at H; exact H
            clear H
            have H := H1
            clear H1
            obtain rfl := Option.some.inj H
            go_wp2
            go_ret
            exact ⟨by first | rfl | (simp; done) | (simp [*]; done), by repeat (first | exact Drawn0.refl _ | apply Drawn0.step)⟩
          · replace c17 := Bool.eq_false_iff.mpr c17
            subst c17
            have H1 : ((aditlaw1_within.f a1 2097153).bind fun t138 => ((aditlaw1_within.f a2 2097153).bind fun t139 => ((fix_Dist.f kj8 (wrap64 (t138 - 1048576)) (wrap64 (t139 - 1048576))).bind fun t140 => ((aditref1_Dist.f kj8 (wrap64 (t138 - 1048576)) (wrap64 (t139 - 1048576))).bind fun t141 => (if t140 = t141 then ((fix_Dist.f kj8 (wrap64 (t138 - 1048576)) (wrap64 (t139 - 1048576))).bind fun t142 => ((fix_Dist.f kj8 (wrap64 (-(wrap64 (t139 - 1048576)))) (wrap64 (t138 - 1048576))).bind fun t143 => (some (t142 == t143)))) else (some false)))))) = some r := by rw [if_neg (show ¬ (false = true) by decide)] at H; exact H
            clear H
            have H := H1
            clear H1
            replace H := Option.bind_eq_some_iff.mp H
            obtain ⟨t138, A180, H⟩ := H
            replace H : ((aditlaw1_within.f a2 2097153).bind fun t139 => ((fix_Dist.f kj8 (wrap64 (t138 - 1048576)) (wrap64 (t139 - 1048576))).bind fun t140 => ((aditref1_Dist.f kj8 (wrap64 (t138 - 1048576)) (wrap64 (t139 - 1048576))).bind fun t141 => (if t140 = t141 then ((fix_Dist.f kj8 (wrap64 (t138 - 1048576)) (wrap64 (t139 - 1048576))).bind fun t142 => ((fix_Dist.f kj8 (wrap64 (-(wrap64 (t139 - 1048576)))) (wrap64 (t138 - 1048576))).bind fun t143 => (some (t142 == t143)))) else (some false))))) = some r := H
            have A18 := Aside0.mk A180
            clear A180
            replace H := Option.bind_eq_some_iff.mp H
            obtain ⟨t139, A190, H⟩ := H
            replace H : ((fix_Dist.f kj8 (wrap64 (t138 - 1048576)) (wrap64 (t139 - 1048576))).bind fun t140 => ((aditref1_Dist.f kj8 (wrap64 (t138 - 1048576)) (wrap64 (t139 - 1048576))).bind fun t141 => (if t140 = t141 then ((fix_Dist.f kj8 (wrap64 (t138 - 1048576)) (wrap64 (t139 - 1048576))).bind fun t142 => ((fix_Dist.f kj8 (wrap64 (-(wrap64 (t139 - 1048576)))) (wrap64 (t138 - 1048576))).bind fun t143 => (some (t142 == t143)))) else (some false)))) = some r := H
            have A19 := Aside0.mk A190
            clear A190
            replace H := Option.bind_eq_some_iff.mp H
            obtain ⟨t140, A200, H⟩ := H
            replace H : ((aditref1_Dist.f kj8 (wrap64 (t138 - 1048576)) (wrap64 (t139 - 1048576))).bind fun t141 => (if t140 = t141 then ((fix_Dist.f kj8 (wrap64 (t138 - 1048576)) (wrap64 (t139 - 1048576))).bind fun t142 => ((fix_Dist.f kj8 (wrap64 (-(wrap64 (t139 - 1048576)))) (wrap64 (t138 - 1048576))).bind fun t143 => (some (t142 == t143)))) else (some false))) = some r := H
            have A20 := Aside0.mk A200
            clear A200
            replace H := Option.bind_eq_some_iff.mp H
            obtain ⟨t141, A210, H⟩ := H
            replace H : (if t140 = t141 then ((fix_Dist.f kj8 (wrap64 (t138 - 1048576)) (wrap64 (t139 - 1048576))).bind fun t142 => ((fix_Dist.f kj8 (wrap64 (-(wrap64 (t139 - 1048576)))) (wrap64 (t138 - 1048576))).bind fun t143 => (some (t142 == t143)))) else (some false)) = some r := H
            have A21 := Aside0.mk A210
            clear A210
            by_cases c22 : t140 = t141
            · rw [if_pos c22] at H
              have c22b0 : (t140 == t141) = true := beq_iff_eq.mpr c22
              have c22b1 : (t140 != t141) = false := bne_eq_false_iff_eq.mpr c22
              clear c22
              replace H := Option.bind_eq_some_iff.mp H
              obtain ⟨t142, A230, H⟩ := H
              replace H : ((fix_Dist.f kj8 (wrap64 (-(wrap64 (t139 - 1048576)))) (wrap64 (t138 - 1048576))).bind fun t143 => (some (t142 == t143))) = some r := H
              have A23 := Aside0.mk A230
              clear A230
              replace H := Option.bind_eq_some_iff.mp H
              obtain ⟨t143, A240, H⟩ := H
              replace H : (some (t142 == t143)) = some r := H
              have A24 := Aside0.mk A240
              clear A240
              obtain rfl := Option.some.inj H
              go_wp2_with (first | ((with_reducible refine gate_callee (f := 16) rfl ?_); refine goesL_ (some 47) rfl rfl Try.func16 (by kernel_rfl) rfl #[.int .i64 a1, .int .i64 2097153] rfl (by (try simp only [List.map_toArray, List.map_cons, List.map_nil]); first | done | rfl | (simp only [List.length_drop, List.length_take]; rfl)) ?_; (with_reducible refine (aditlaw1_within.calls a1 2097153 t138 _ A18.out).mono ?_); rintro e w' ⟨rfl, ⟨nd, rfl⟩⟩; refine ⟨_, rfl, ?_⟩) | ((with_reducible refine gate_callee (f := 16) rfl ?_); refine goesL_ (some 50) rfl rfl Try.func16 (by kernel_rfl) rfl #[.int .i64 a2, .int .i64 2097153] rfl (by (try simp only [List.map_toArray, List.map_cons, List.map_nil]); first | done | rfl | (simp only [List.length_drop, List.length_take]; rfl)) ?_; (with_reducible refine (aditlaw1_within.calls a2 2097153 t139 _ A19.out).mono ?_); rintro e w' ⟨rfl, ⟨nd, rfl⟩⟩; refine ⟨_, rfl, ?_⟩) | ((with_reducible refine gate_callee (f := 17) rfl ?_); refine goesL_ (some 54) rfl rfl Try.func17 (by kernel_rfl) rfl #[.int .i64 (wrap64 (t138 - 1048576)), .int .i64 (wrap64 (t139 - 1048576))] rfl (by (try simp only [List.map_toArray, List.map_cons, List.map_nil]); first | done | rfl | (simp only [List.length_drop, List.length_take]; rfl)) ?_; (with_reducible refine (fix_Dist.calls kj8 (wrap64 (t138 - 1048576)) (wrap64 (t139 - 1048576)) t140 _ A20.out).mono ?_); rintro e w' ⟨rfl, ⟨nd, rfl⟩⟩; refine ⟨_, rfl, ?_⟩) | ((with_reducible refine gate_callee (f := 18) rfl ?_); refine goesL_ (some 57) rfl rfl Try.func18 (by kernel_rfl) rfl #[.int .i64 (wrap64 (t138 - 1048576)), .int .i64 (wrap64 (t139 - 1048576))] rfl (by (try simp only [List.map_toArray, List.map_cons, List.map_nil]); first | done | rfl | (simp only [List.length_drop, List.length_take]; rfl)) ?_; (with_reducible refine (aditref1_Dist.calls kj8 (wrap64 (t138 - 1048576)) (wrap64 (t139 - 1048576)) t141 _ A21.out).mono ?_); rintro e w' ⟨rfl, ⟨nd, rfl⟩⟩; refine ⟨_, rfl, ?_⟩) | (go_at_call 17; (with_reducible refine (fix_Dist.calls kj8 (wrap64 (t138 - 1048576)) (wrap64 (t139 - 1048576)) t142 _ A23.out).mono ?_); rintro e w' ⟨rfl, ⟨nd, rfl⟩⟩) | (go_at_call 17; (with_reducible refine (fix_Dist.calls kj8 (wrap64 (-(wrap64 (t139 - 1048576)))) (wrap64 (t138 - 1048576)) t143 _ A24.out).mono ?_); rintro e w' ⟨rfl, ⟨nd, rfl⟩⟩))
              go_ret
              exact ⟨by first | rfl | (simp; done) | (simp [*]; done), by repeat (first | exact Drawn0.refl _ | apply Drawn0.step)⟩
            · rw [if_neg c22] at H
              have c22b0 : (t140 == t141) = false := beq_eq_false_iff_ne.mpr c22
              have c22b1 : (t140 != t141) = true := bne_iff_ne.mpr c22
              obtain rfl := Option.some.inj H
              go_wp2_with (first | ((with_reducible refine gate_callee (f := 16) rfl ?_); refine goesL_ (some 47) rfl rfl Try.func16 (by kernel_rfl) rfl #[.int .i64 a1, .int .i64 2097153] rfl (by (try simp only [List.map_toArray, List.map_cons, List.map_nil]); first | done | rfl | (simp only [List.length_drop, List.length_take]; rfl)) ?_; (with_reducible refine (aditlaw1_within.calls a1 2097153 t138 _ A18.out).mono ?_); rintro e w' ⟨rfl, ⟨nd, rfl⟩⟩; refine ⟨_, rfl, ?_⟩) | ((with_reducible refine gate_callee (f := 16) rfl ?_); refine goesL_ (some 50) rfl rfl Try.func16 (by kernel_rfl) rfl #[.int .i64 a2, .int .i64 2097153] rfl (by (try simp only [List.map_toArray, List.map_cons, List.map_nil]); first | done | rfl | (simp only [List.length_drop, List.length_take]; rfl)) ?_; (with_reducible refine (aditlaw1_within.calls a2 2097153 t139 _ A19.out).mono ?_); rintro e w' ⟨rfl, ⟨nd, rfl⟩⟩; refine ⟨_, rfl, ?_⟩) | ((with_reducible refine gate_callee (f := 17) rfl ?_); refine goesL_ (some 54) rfl rfl Try.func17 (by kernel_rfl) rfl #[.int .i64 (wrap64 (t138 - 1048576)), .int .i64 (wrap64 (t139 - 1048576))] rfl (by (try simp only [List.map_toArray, List.map_cons, List.map_nil]); first | done | rfl | (simp only [List.length_drop, List.length_take]; rfl)) ?_; (with_reducible refine (fix_Dist.calls kj8 (wrap64 (t138 - 1048576)) (wrap64 (t139 - 1048576)) t140 _ A20.out).mono ?_); rintro e w' ⟨rfl, ⟨nd, rfl⟩⟩; refine ⟨_, rfl, ?_⟩) | ((with_reducible refine gate_callee (f := 18) rfl ?_); refine goesL_ (some 57) rfl rfl Try.func18 (by kernel_rfl) rfl #[.int .i64 (wrap64 (t138 - 1048576)), .int .i64 (wrap64 (t139 - 1048576))] rfl (by (try simp only [List.map_toArray, List.map_cons, List.map_nil]); first | done | rfl | (simp only [List.length_drop, List.length_take]; rfl)) ?_; (with_reducible refine (aditref1_Dist.calls kj8 (wrap64 (t138 - 1048576)) (wrap64 (t139 - 1048576)) t141 _ A21.out).mono ?_); rintro e w' ⟨rfl, ⟨nd, rfl⟩⟩; refine ⟨_, rfl, ?_⟩))
              go_ret
              exact ⟨by first | rfl | (simp; done) | (simp [*]; done), by repeat (first | exact Drawn0.refl _ | apply Drawn0.step)⟩
    · rw [if_neg c8] at H
      have c8b0 : (t136 == t137) = false := beq_eq_false_iff_ne.mpr c8
      have c8b1 : (t136 != t137) = true := bne_iff_ne.mpr c8
      obtain rfl := Option.some.inj H
      go_enter Try.func4, Try.ntmps4
      go_wp2_with (first | ((with_reducible refine gate_callee (f := 11) rfl ?_); refine goesL_ (some 8) rfl rfl Try.func11 (by kernel_rfl) rfl #[] rfl (by (try simp only [List.map_toArray, List.map_cons, List.map_nil]); first | done | rfl | (simp only [List.length_drop, List.length_take]; rfl)) ?_; (with_reducible refine (aditlaw1_known.calls k  true _ A4.out).mono ?_); rintro e w' ⟨rfl, ⟨nd, rfl⟩⟩; refine ⟨_, rfl, ?_⟩) | ((with_reducible refine gate_callee (f := 14) rfl ?_); refine goesL_ (some 11) rfl rfl Try.func14 (by kernel_rfl) rfl #[.int .i64 a0] rfl (by (try simp only [List.map_toArray, List.map_cons, List.map_nil]); first | done | rfl | (simp only [List.length_drop, List.length_take]; rfl)) ?_; (with_reducible refine (fix_Root.calls k a0 t136 _ A6.out).mono ?_); rintro e w' ⟨rfl, ⟨nd, rfl⟩⟩; refine ⟨_, rfl, ?_⟩) | ((with_reducible refine gate_callee (f := 15) rfl ?_); refine goesL_ (some 14) rfl rfl Try.func15 (by kernel_rfl) rfl #[.int .i64 a0] rfl (by (try simp only [List.map_toArray, List.map_cons, List.map_nil]); first | done | rfl | (simp only [List.length_drop, List.length_take]; rfl)) ?_; (with_reducible refine (aditref1_Root.calls k a0 t137 _ A7.out).mono ?_); rintro e w' ⟨rfl, ⟨nd, rfl⟩⟩; refine ⟨_, rfl, ?_⟩))
      go_ret
      exact ⟨by first | rfl | (simp; done) | (simp [*]; done), by repeat (first | exact Drawn0.refl _ | apply Drawn0.step)⟩
  · replace c5 := Bool.eq_false_iff.mpr c5
    subst c5
    have H1 : (some false) = some r := by rw [if_neg (show ¬ (false = true) by decide)] at H; exact H
    clear H
    have H := H1
    clear H1
    obtain rfl := Option.some.inj H
    go_enter Try.func4, Try.ntmps4
    go_wp2_with (first | ((with_reducible refine gate_callee (f := 11) rfl ?_); refine goesL_ (some 8) rfl rfl Try.func11 (by kernel_rfl) rfl #[] rfl (by (try simp only [List.map_toArray, List.map_cons, List.map_nil]); first | done | rfl | (simp only [List.length_drop, List.length_take]; rfl)) ?_; (with_reducible refine (aditlaw1_known.calls k  false _ A4.out).mono ?_); rintro e w' ⟨rfl, ⟨nd, rfl⟩⟩; refine ⟨_, rfl, ?_⟩))
    go_ret
    exact ⟨by first | rfl | (simp; done) | (simp [*]; done), by repeat (first | exact Drawn0.refl _ | apply Drawn0.step)⟩

/-- THE ONE PURE STATEMENT of aditlaw1_FixRoots: yours. -/
def aditlaw1_FixRoots.Pure : Prop := ∀ (a0 : Int) (a1 : Int) (a2 : Int), (Lit.int .i64 a0).wf = true → (Lit.int .i64 a1).wf = true → (Lit.int .i64 a2).wf = true → ∃ k, aditlaw1_FixRoots.f k a0 a1 a2 = some true
theorem aditlaw1_FixRoots.walk (P : aditlaw1_FixRoots.Pure) (a0 : Int) (a1 : Int) (a2 : Int) (w : World) (w0 : (Lit.int .i64 a0).wf = true) (w1 : (Lit.int .i64 a1).wf = true) (w2 : (Lit.int .i64 a2).wf = true) :
    Calls Try.prog 4 #[.int .i64 a0, .int .i64 a1, .int .i64 a2] w fun e w' => e = .returned (.bool true) ∧ Below w.heap.size w w' := by
  obtain ⟨k, h⟩ := P a0 a1 a2 w0 w1 w2
  refine (aditlaw1_FixRoots.calls k a0 a1 a2 true w h).mono ?_
  rintro e w' ⟨rfl, hd⟩
  exact ⟨rfl, hd.below⟩

end Go.Proofs.Ytkdbglmkpkliaaa.Q

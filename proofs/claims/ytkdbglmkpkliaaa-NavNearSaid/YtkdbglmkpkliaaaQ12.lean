/- By a program of this session's own, over the translation and the contracts by hand: each function's answers as a Lean function, and that the code comes to them. -/
import Derived.Test.YtkdbglmkpkliaaaQ0
import Derived.Test.YtkdbglmkpkliaaaQ9
import Derived.Test.YtkdbglmkpkliaaaQ11
namespace Go.Proofs.Ytkdbglmkpkliaaa.Q
open Go.RowKit Go.Proofs.YtkdbglmkpkliaaaW.PrintWords Go.Proofs.YtkdbglmkpkliaaaW.PrintLast Go.Proofs.YtkdbglmkpkliaaaW.PrintMore
attribute [local go_sem] max2_int min2_int max_two min_two max_three min_three max_four min_four   -- for this text's walks alone
set_option linter.unusedVariables false
set_option linter.unusedSimpArgs false

/-! ### aditlaw6_known: function 26 -/
def aditlaw6_known.f (k : Nat)  : Option (Bool) := (nav_Beside.f k 3 3 4 3).bind fun t177 => (if t177 = 2 then ((nav_Beside.f k 3 3 5 3).bind fun t178 => (some (t178 == 0))) else (some false))
theorem aditlaw6_known.mono : ∀ k, LeO (aditlaw6_known.f k ) (aditlaw6_known.f (k + 1) ) := by
  intro  k
  unfold aditlaw6_known.f
  repeat' first
      | (with_reducible exact nav_Beside.mono _ _ _ _ _)
      | (with_reducible exact LeO.refl _)
      | (with_reducible exact LeO.none _)
      | (with_reducible refine LeO.ite ?_ ?_)
      | (with_reducible refine LeO.bind ?_ (fun _ => ?_))
      | exact nav_Beside.mono _ _ _ _ _
      | exact LeO.none _
      | refine LeO.ite ?_ ?_
      | refine LeO.bind ?_ (fun _ => ?_)
set_option maxHeartbeats 8000000 in
set_option maxRecDepth 100000 in
theorem aditlaw6_known.calls (k : Nat)  (r : Bool) (w : World) (h : aditlaw6_known.f k  = some r) :
    Calls Try.prog 26 #[] w fun e w' => e = .returned (.bool r) ∧ Drawn0 w w' := by
  have H : ((nav_Beside.f k 3 3 4 3).bind fun t177 => (if t177 = 2 then ((nav_Beside.f k 3 3 5 3).bind fun t178 => (some (t178 == 0))) else (some false))) = some r := h
  clear h
  replace H := Option.bind_eq_some_iff.mp H
  obtain ⟨t177, A10, H⟩ := H
  replace H : (if t177 = 2 then ((nav_Beside.f k 3 3 5 3).bind fun t178 => (some (t178 == 0))) else (some false)) = some r := H
  have A1 := Aside0.mk A10
  clear A10
  by_cases c2 : t177 = 2
  · rw [if_pos c2] at H
    have c2b0 : (t177 == 2) = true := beq_iff_eq.mpr c2
    have c2b1 : (t177 != 2) = false := bne_eq_false_iff_eq.mpr c2
    clear c2
    replace H := Option.bind_eq_some_iff.mp H
    obtain ⟨t178, A30, H⟩ := H
    replace H : (some (t178 == 0)) = some r := H
    have A3 := Aside0.mk A30
    clear A30
    obtain rfl := Option.some.inj H
    go_enter Try.func26, Try.ntmps26
    go_wp2_with (first | ((with_reducible refine gate_callee (f := 28) rfl ?_); refine goesL_ (some 1) rfl rfl Try.func28 (by kernel_rfl) rfl #[.int .i64 3, .int .i64 3, .int .i64 4, .int .i64 3] rfl (by (try simp only [List.map_toArray, List.map_cons, List.map_nil]); first | done | rfl | (simp only [List.length_drop, List.length_take]; rfl)) ?_; (with_reducible refine (nav_Beside.calls k 3 3 4 3 t177 _ A1.out).mono ?_); rintro e w' ⟨rfl, ⟨nd, rfl⟩⟩; refine ⟨_, rfl, ?_⟩) | (go_at_call 28; (with_reducible refine (nav_Beside.calls k 3 3 5 3 t178 _ A3.out).mono ?_); rintro e w' ⟨rfl, ⟨nd, rfl⟩⟩))
    go_ret
    exact ⟨by first | rfl | (simp; done) | (simp [*]; done), by repeat (first | exact Drawn0.refl _ | apply Drawn0.step)⟩
  · rw [if_neg c2] at H
    have c2b0 : (t177 == 2) = false := beq_eq_false_iff_ne.mpr c2
    have c2b1 : (t177 != 2) = true := bne_iff_ne.mpr c2
    obtain rfl := Option.some.inj H
    go_enter Try.func26, Try.ntmps26
    go_wp2_with (first | ((with_reducible refine gate_callee (f := 28) rfl ?_); refine goesL_ (some 1) rfl rfl Try.func28 (by kernel_rfl) rfl #[.int .i64 3, .int .i64 3, .int .i64 4, .int .i64 3] rfl (by (try simp only [List.map_toArray, List.map_cons, List.map_nil]); first | done | rfl | (simp only [List.length_drop, List.length_take]; rfl)) ?_; (with_reducible refine (nav_Beside.calls k 3 3 4 3 t177 _ A1.out).mono ?_); rintro e w' ⟨rfl, ⟨nd, rfl⟩⟩; refine ⟨_, rfl, ?_⟩))
    go_ret
    exact ⟨by first | rfl | (simp; done) | (simp [*]; done), by repeat (first | exact Drawn0.refl _ | apply Drawn0.step)⟩

/-! ### aditlaw6_within: function 27 -/
def aditlaw6_within.f (a0 : Int) (a1 : Int) : Option (Int) := if a1 = 0 then (none) else (if (Int.tmod a0 a1) < 0 then (some (wrap64 ((Int.tmod a0 a1) + a1))) else (some (Int.tmod a0 a1)))
set_option maxHeartbeats 8000000 in
set_option maxRecDepth 100000 in
theorem aditlaw6_within.calls (a0 : Int) (a1 : Int) (r : Int) (w : World) (h : aditlaw6_within.f a0 a1 = some r) :
    Calls Try.prog 27 #[.int .i64 a0, .int .i64 a1] w fun e w' => e = .returned (.int .i64 r) ∧ Drawn0 w w' := by
  have H : (if a1 = 0 then (none) else (if (Int.tmod a0 a1) < 0 then (some (wrap64 ((Int.tmod a0 a1) + a1))) else (some (Int.tmod a0 a1)))) = some r := h
  clear h
  by_cases c3 : a1 = 0
  · rw [if_pos c3] at H
    exact absurd H (by simp)
  · rw [if_neg c3] at H
    have c3b0 : (a1 == 0) = false := beq_eq_false_iff_ne.mpr c3
    have c3b1 : (a1 != 0) = true := bne_iff_ne.mpr c3
    by_cases c4 : (Int.tmod a0 a1) < 0
    · rw [if_pos c4] at H
      have c4b0 : decide ((Int.tmod a0 a1) < 0) = true := decide_eq_true c4
      clear c4
      obtain rfl := Option.some.inj H
      go_enter Try.func27, Try.ntmps27
      go_wp2
      go_ret
      exact ⟨by first | rfl | (simp; done) | (simp [*]; done), by repeat (first | exact Drawn0.refl _ | apply Drawn0.step)⟩
    · rw [if_neg c4] at H
      have c4b0 : decide ((Int.tmod a0 a1) < 0) = false := decide_eq_false c4
      clear c4
      obtain rfl := Option.some.inj H
      go_enter Try.func27, Try.ntmps27
      go_wp2
      go_ret
      exact ⟨by first | rfl | (simp; done) | (simp [*]; done), by repeat (first | exact Drawn0.refl _ | apply Drawn0.step)⟩

/-! ### aditlaw6_NavNear: function 10 -/
def aditlaw6_NavNear.f (k : Nat) (a0 : Int) (a1 : Int) (a2 : Int) (a3 : Int) : Option (Bool) := (aditlaw6_known.f k).bind fun t179 => (if t179 = true then ((aditlaw6_within.f a0 1000).bind fun t180 => ((aditlaw6_within.f a1 1000).bind fun t181 => ((aditlaw6_within.f a2 5).bind fun t182 => ((aditlaw6_within.f a3 5).bind fun t183 => ((nav_Beside.f k t180 t181 (wrap64 (t180 + (wrap64 (t182 - 2)))) (wrap64 (t181 + (wrap64 (t183 - 2))))).bind fun t184 => ((nav_Beside.f k (wrap64 (t180 + (wrap64 (t182 - 2)))) (wrap64 (t181 + (wrap64 (t183 - 2)))) t180 t181).bind fun t185 => (if (((wrap64 ((wrap64 ((wrap64 (t182 - 2)) * (wrap64 (t182 - 2)))) + (wrap64 ((wrap64 (t183 - 2)) * (wrap64 (t183 - 2)))))) == 1) != (t184 != 0)) = true then (some false) else (if t184 = 0 then (some (t185 == 0)) else ((aditref1_Way.f t184).bind fun bt186 => (if bt186.1 = (wrap64 (t182 - 2)) then (if bt186.2 = (wrap64 (t183 - 2)) then (some ((wrap64 ((Int.tmod (wrap64 (t184 + 1)) 4) + 1)) == t185)) else (some false)) else (some false))))))))))) else (some false))
theorem aditlaw6_NavNear.mono : ∀ a0 a1 a2 a3 k, LeO (aditlaw6_NavNear.f k a0 a1 a2 a3) (aditlaw6_NavNear.f (k + 1) a0 a1 a2 a3) := by
  intro a0 a1 a2 a3 k
  unfold aditlaw6_NavNear.f
  repeat' first
      | (with_reducible exact aditlaw6_known.mono _)
      | (with_reducible exact nav_Beside.mono _ _ _ _ _)
      | (with_reducible exact LeO.refl _)
      | (with_reducible exact LeO.none _)
      | (with_reducible refine LeO.ite ?_ ?_)
      | (with_reducible refine LeO.bind ?_ (fun _ => ?_))
      | exact aditlaw6_known.mono _
      | exact nav_Beside.mono _ _ _ _ _
      | exact LeO.none _
      | refine LeO.ite ?_ ?_
      | refine LeO.bind ?_ (fun _ => ?_)
set_option maxHeartbeats 8000000 in
set_option maxRecDepth 100000 in
theorem aditlaw6_NavNear.calls (k : Nat) (a0 : Int) (a1 : Int) (a2 : Int) (a3 : Int) (r : Bool) (w : World) (h : aditlaw6_NavNear.f k a0 a1 a2 a3 = some r) :
    Calls Try.prog 10 #[.int .i64 a0, .int .i64 a1, .int .i64 a2, .int .i64 a3] w fun e w' => e = .returned (.bool r) ∧ Drawn0 w w' := by
  have H : ((aditlaw6_known.f k).bind fun t179 => (if t179 = true then ((aditlaw6_within.f a0 1000).bind fun t180 => ((aditlaw6_within.f a1 1000).bind fun t181 => ((aditlaw6_within.f a2 5).bind fun t182 => ((aditlaw6_within.f a3 5).bind fun t183 => ((nav_Beside.f k t180 t181 (wrap64 (t180 + (wrap64 (t182 - 2)))) (wrap64 (t181 + (wrap64 (t183 - 2))))).bind fun t184 => ((nav_Beside.f k (wrap64 (t180 + (wrap64 (t182 - 2)))) (wrap64 (t181 + (wrap64 (t183 - 2)))) t180 t181).bind fun t185 => (if (((wrap64 ((wrap64 ((wrap64 (t182 - 2)) * (wrap64 (t182 - 2)))) + (wrap64 ((wrap64 (t183 - 2)) * (wrap64 (t183 - 2)))))) == 1) != (t184 != 0)) = true then (some false) else (if t184 = 0 then (some (t185 == 0)) else ((aditref1_Way.f t184).bind fun bt186 => (if bt186.1 = (wrap64 (t182 - 2)) then (if bt186.2 = (wrap64 (t183 - 2)) then (some ((wrap64 ((Int.tmod (wrap64 (t184 + 1)) 4) + 1)) == t185)) else (some false)) else (some false))))))))))) else (some false))) = some r := h
  clear h
  replace H := Option.bind_eq_some_iff.mp H
  obtain ⟨t179, A50, H⟩ := H
  replace H : (if t179 = true then ((aditlaw6_within.f a0 1000).bind fun t180 => ((aditlaw6_within.f a1 1000).bind fun t181 => ((aditlaw6_within.f a2 5).bind fun t182 => ((aditlaw6_within.f a3 5).bind fun t183 => ((nav_Beside.f k t180 t181 (wrap64 (t180 + (wrap64 (t182 - 2)))) (wrap64 (t181 + (wrap64 (t183 - 2))))).bind fun t184 => ((nav_Beside.f k (wrap64 (t180 + (wrap64 (t182 - 2)))) (wrap64 (t181 + (wrap64 (t183 - 2)))) t180 t181).bind fun t185 => (if (((wrap64 ((wrap64 ((wrap64 (t182 - 2)) * (wrap64 (t182 - 2)))) + (wrap64 ((wrap64 (t183 - 2)) * (wrap64 (t183 - 2)))))) == 1) != (t184 != 0)) = true then (some false) else (if t184 = 0 then (some (t185 == 0)) else ((aditref1_Way.f t184).bind fun bt186 => (if bt186.1 = (wrap64 (t182 - 2)) then (if bt186.2 = (wrap64 (t183 - 2)) then (some ((wrap64 ((Int.tmod (wrap64 (t184 + 1)) 4) + 1)) == t185)) else (some false)) else (some false))))))))))) else (some false)) = some r := H
  have A5 := Aside0.mk A50
  clear A50
  by_cases c6 : t179 = true
  · subst c6
    have H1 : ((aditlaw6_within.f a0 1000).bind fun t180 => ((aditlaw6_within.f a1 1000).bind fun t181 => ((aditlaw6_within.f a2 5).bind fun t182 => ((aditlaw6_within.f a3 5).bind fun t183 => ((nav_Beside.f k t180 t181 (wrap64 (t180 + (wrap64 (t182 - 2)))) (wrap64 (t181 + (wrap64 (t183 - 2))))).bind fun t184 => ((nav_Beside.f k (wrap64 (t180 + (wrap64 (t182 - 2)))) (wrap64 (t181 + (wrap64 (t183 - 2)))) t180 t181).bind fun t185 => (if (((wrap64 ((wrap64 ((wrap64 (t182 - 2)) * (wrap64 (t182 - 2)))) + (wrap64 ((wrap64 (t183 - 2)) * (wrap64 (t183 - 2)))))) == 1) != (t184 != 0)) = true then (some false) else (if t184 = 0 then (some (t185 == 0)) else ((aditref1_Way.f t184).bind fun bt186 => (if bt186.1 = (wrap64 (t182 - 2)) then (if bt186.2 = (wrap64 (t183 - 2)) then (some ((wrap64 ((Int.tmod (wrap64 (t184 + 1)) 4) + 1)) == t185)) else (some false)) else (some false))))))))))) = some r := by rw [if_pos rfl] at H; exact H
    clear H
    have H := H1
    clear H1
    replace H := Option.bind_eq_some_iff.mp H
    obtain ⟨t180, A70, H⟩ := H
    replace H : ((aditlaw6_within.f a1 1000).bind fun t181 => ((aditlaw6_within.f a2 5).bind fun t182 => ((aditlaw6_within.f a3 5).bind fun t183 => ((nav_Beside.f k t180 t181 (wrap64 (t180 + (wrap64 (t182 - 2)))) (wrap64 (t181 + (wrap64 (t183 - 2))))).bind fun t184 => ((nav_Beside.f k (wrap64 (t180 + (wrap64 (t182 - 2)))) (wrap64 (t181 + (wrap64 (t183 - 2)))) t180 t181).bind fun t185 => (if (((wrap64 ((wrap64 ((wrap64 (t182 - 2)) * (wrap64 (t182 - 2)))) + (wrap64 ((wrap64 (t183 - 2)) * (wrap64 (t183 - 2)))))) == 1) != (t184 != 0)) = true then (some false) else (if t184 = 0 then (some (t185 == 0)) else ((aditref1_Way.f t184).bind fun bt186 => (if bt186.1 = (wrap64 (t182 - 2)) then (if bt186.2 = (wrap64 (t183 - 2)) then (some ((wrap64 ((Int.tmod (wrap64 (t184 + 1)) 4) + 1)) == t185)) else (some false)) else (some false)))))))))) = some r := H
    have A7 := Aside0.mk A70
    clear A70
    replace H := Option.bind_eq_some_iff.mp H
    obtain ⟨t181, A80, H⟩ := H
    replace H : ((aditlaw6_within.f a2 5).bind fun t182 => ((aditlaw6_within.f a3 5).bind fun t183 => ((nav_Beside.f k t180 t181 (wrap64 (t180 + (wrap64 (t182 - 2)))) (wrap64 (t181 + (wrap64 (t183 - 2))))).bind fun t184 => ((nav_Beside.f k (wrap64 (t180 + (wrap64 (t182 - 2)))) (wrap64 (t181 + (wrap64 (t183 - 2)))) t180 t181).bind fun t185 => (if (((wrap64 ((wrap64 ((wrap64 (t182 - 2)) * (wrap64 (t182 - 2)))) + (wrap64 ((wrap64 (t183 - 2)) * (wrap64 (t183 - 2)))))) == 1) != (t184 != 0)) = true then (some false) else (if t184 = 0 then (some (t185 == 0)) else ((aditref1_Way.f t184).bind fun bt186 => (if bt186.1 = (wrap64 (t182 - 2)) then (if bt186.2 = (wrap64 (t183 - 2)) then (some ((wrap64 ((Int.tmod (wrap64 (t184 + 1)) 4) + 1)) == t185)) else (some false)) else (some false))))))))) = some r := H
    have A8 := Aside0.mk A80
    clear A80
    replace H := Option.bind_eq_some_iff.mp H
    obtain ⟨t182, A90, H⟩ := H
    replace H : ((aditlaw6_within.f a3 5).bind fun t183 => ((nav_Beside.f k t180 t181 (wrap64 (t180 + (wrap64 (t182 - 2)))) (wrap64 (t181 + (wrap64 (t183 - 2))))).bind fun t184 => ((nav_Beside.f k (wrap64 (t180 + (wrap64 (t182 - 2)))) (wrap64 (t181 + (wrap64 (t183 - 2)))) t180 t181).bind fun t185 => (if (((wrap64 ((wrap64 ((wrap64 (t182 - 2)) * (wrap64 (t182 - 2)))) + (wrap64 ((wrap64 (t183 - 2)) * (wrap64 (t183 - 2)))))) == 1) != (t184 != 0)) = true then (some false) else (if t184 = 0 then (some (t185 == 0)) else ((aditref1_Way.f t184).bind fun bt186 => (if bt186.1 = (wrap64 (t182 - 2)) then (if bt186.2 = (wrap64 (t183 - 2)) then (some ((wrap64 ((Int.tmod (wrap64 (t184 + 1)) 4) + 1)) == t185)) else (some false)) else (some false)))))))) = some r := H
    have A9 := Aside0.mk A90
    clear A90
    replace H := Option.bind_eq_some_iff.mp H
    obtain ⟨t183, A100, H⟩ := H
    replace H : ((nav_Beside.f k t180 t181 (wrap64 (t180 + (wrap64 (t182 - 2)))) (wrap64 (t181 + (wrap64 (t183 - 2))))).bind fun t184 => ((nav_Beside.f k (wrap64 (t180 + (wrap64 (t182 - 2)))) (wrap64 (t181 + (wrap64 (t183 - 2)))) t180 t181).bind fun t185 => (if (((wrap64 ((wrap64 ((wrap64 (t182 - 2)) * (wrap64 (t182 - 2)))) + (wrap64 ((wrap64 (t183 - 2)) * (wrap64 (t183 - 2)))))) == 1) != (t184 != 0)) = true then (some false) else (if t184 = 0 then (some (t185 == 0)) else ((aditref1_Way.f t184).bind fun bt186 => (if bt186.1 = (wrap64 (t182 - 2)) then (if bt186.2 = (wrap64 (t183 - 2)) then (some ((wrap64 ((Int.tmod (wrap64 (t184 + 1)) 4) + 1)) == t185)) else (some false)) else (some false))))))) = some r := H
    have A10 := Aside0.mk A100
    clear A100
    replace H := Option.bind_eq_some_iff.mp H
    obtain ⟨t184, A110, H⟩ := H
    replace H : ((nav_Beside.f k (wrap64 (t180 + (wrap64 (t182 - 2)))) (wrap64 (t181 + (wrap64 (t183 - 2)))) t180 t181).bind fun t185 => (if (((wrap64 ((wrap64 ((wrap64 (t182 - 2)) * (wrap64 (t182 - 2)))) + (wrap64 ((wrap64 (t183 - 2)) * (wrap64 (t183 - 2)))))) == 1) != (t184 != 0)) = true then (some false) else (if t184 = 0 then (some (t185 == 0)) else ((aditref1_Way.f t184).bind fun bt186 => (if bt186.1 = (wrap64 (t182 - 2)) then (if bt186.2 = (wrap64 (t183 - 2)) then (some ((wrap64 ((Int.tmod (wrap64 (t184 + 1)) 4) + 1)) == t185)) else (some false)) else (some false)))))) = some r := H
    have A11 := Aside0.mk A110
    clear A110
    replace H := Option.bind_eq_some_iff.mp H
    obtain ⟨t185, A120, H⟩ := H
    replace H : (if (((wrap64 ((wrap64 ((wrap64 (t182 - 2)) * (wrap64 (t182 - 2)))) + (wrap64 ((wrap64 (t183 - 2)) * (wrap64 (t183 - 2)))))) == 1) != (t184 != 0)) = true then (some false) else (if t184 = 0 then (some (t185 == 0)) else ((aditref1_Way.f t184).bind fun bt186 => (if bt186.1 = (wrap64 (t182 - 2)) then (if bt186.2 = (wrap64 (t183 - 2)) then (some ((wrap64 ((Int.tmod (wrap64 (t184 + 1)) 4) + 1)) == t185)) else (some false)) else (some false))))) = some r := H
    have A12 := Aside0.mk A120
    clear A120
    by_cases c13 : (((wrap64 ((wrap64 ((wrap64 (t182 - 2)) * (wrap64 (t182 - 2)))) + (wrap64 ((wrap64 (t183 - 2)) * (wrap64 (t183 - 2)))))) == 1) != (t184 != 0)) = true
    · rw [if_pos c13] at H
      have c13b0 : (((wrap64 ((wrap64 ((wrap64 (t182 - 2)) * (wrap64 (t182 - 2)))) + (wrap64 ((wrap64 (t183 - 2)) * (wrap64 (t183 - 2)))))) == 1) != (t184 != 0)) = true := c13
      (try (have c13b1 : decide (((wrap64 ((wrap64 ((wrap64 (t182 - 2)) * (wrap64 (t182 - 2)))) + (wrap64 ((wrap64 (t183 - 2)) * (wrap64 (t183 - 2)))))) == 1) = (t184 != 0)) = false := by simpa using c13))
      (try (have c13b2 : (((wrap64 ((wrap64 ((wrap64 (t182 - 2)) * (wrap64 (t182 - 2)))) + (wrap64 ((wrap64 (t183 - 2)) * (wrap64 (t183 - 2)))))) == 1) == (t184 != 0)) = false := by simpa using c13))
      (try (have c13b3 : ¬ (((wrap64 ((wrap64 ((wrap64 (t182 - 2)) * (wrap64 (t182 - 2)))) + (wrap64 ((wrap64 (t183 - 2)) * (wrap64 (t183 - 2)))))) == 1) = (t184 != 0)) := by simpa using c13))
      clear c13
      obtain rfl := Option.some.inj H
      go_enter Try.func10, Try.ntmps10
      go_wp2_with (first | ((with_reducible refine gate_callee (f := 26) rfl ?_); refine goesL_ (some 13) rfl rfl Try.func26 (by kernel_rfl) rfl #[] rfl (by (try simp only [List.map_toArray, List.map_cons, List.map_nil]); first | done | rfl | (simp only [List.length_drop, List.length_take]; rfl)) ?_; (with_reducible refine (aditlaw6_known.calls k  true _ A5.out).mono ?_); rintro e w' ⟨rfl, ⟨nd, rfl⟩⟩; refine ⟨_, rfl, ?_⟩) | ((with_reducible refine gate_callee (f := 27) rfl ?_); refine goesL_ (some 16) rfl rfl Try.func27 (by kernel_rfl) rfl #[.int .i64 a0, .int .i64 1000] rfl (by (try simp only [List.map_toArray, List.map_cons, List.map_nil]); first | done | rfl | (simp only [List.length_drop, List.length_take]; rfl)) ?_; (with_reducible refine (aditlaw6_within.calls a0 1000 t180 _ A7.out).mono ?_); rintro e w' ⟨rfl, ⟨nd, rfl⟩⟩; refine ⟨_, rfl, ?_⟩) | ((with_reducible refine gate_callee (f := 27) rfl ?_); refine goesL_ (some 18) rfl rfl Try.func27 (by kernel_rfl) rfl #[.int .i64 a1, .int .i64 1000] rfl (by (try simp only [List.map_toArray, List.map_cons, List.map_nil]); first | done | rfl | (simp only [List.length_drop, List.length_take]; rfl)) ?_; (with_reducible refine (aditlaw6_within.calls a1 1000 t181 _ A8.out).mono ?_); rintro e w' ⟨rfl, ⟨nd, rfl⟩⟩; refine ⟨_, rfl, ?_⟩) | ((with_reducible refine gate_callee (f := 27) rfl ?_); refine goesL_ (some 20) rfl rfl Try.func27 (by kernel_rfl) rfl #[.int .i64 a2, .int .i64 5] rfl (by (try simp only [List.map_toArray, List.map_cons, List.map_nil]); first | done | rfl | (simp only [List.length_drop, List.length_take]; rfl)) ?_; (with_reducible refine (aditlaw6_within.calls a2 5 t182 _ A9.out).mono ?_); rintro e w' ⟨rfl, ⟨nd, rfl⟩⟩; refine ⟨_, rfl, ?_⟩) | ((with_reducible refine gate_callee (f := 27) rfl ?_); refine goesL_ (some 23) rfl rfl Try.func27 (by kernel_rfl) rfl #[.int .i64 a3, .int .i64 5] rfl (by (try simp only [List.map_toArray, List.map_cons, List.map_nil]); first | done | rfl | (simp only [List.length_drop, List.length_take]; rfl)) ?_; (with_reducible refine (aditlaw6_within.calls a3 5 t183 _ A10.out).mono ?_); rintro e w' ⟨rfl, ⟨nd, rfl⟩⟩; refine ⟨_, rfl, ?_⟩) | ((with_reducible refine gate_callee (f := 28) rfl ?_); refine goesL_ (some 33) rfl rfl Try.func28 (by kernel_rfl) rfl #[.int .i64 t180, .int .i64 t181, .int .i64 (wrap64 (t180 + (wrap64 (t182 - 2)))), .int .i64 (wrap64 (t181 + (wrap64 (t183 - 2))))] rfl (by (try simp only [List.map_toArray, List.map_cons, List.map_nil]); first | done | rfl | (simp only [List.length_drop, List.length_take]; rfl)) ?_; (with_reducible refine (nav_Beside.calls k t180 t181 (wrap64 (t180 + (wrap64 (t182 - 2)))) (wrap64 (t181 + (wrap64 (t183 - 2)))) t184 _ A11.out).mono ?_); rintro e w' ⟨rfl, ⟨nd, rfl⟩⟩; refine ⟨_, rfl, ?_⟩) | ((with_reducible refine gate_callee (f := 28) rfl ?_); refine goesL_ (some 42) rfl rfl Try.func28 (by kernel_rfl) rfl #[.int .i64 (wrap64 (t180 + (wrap64 (t182 - 2)))), .int .i64 (wrap64 (t181 + (wrap64 (t183 - 2)))), .int .i64 t180, .int .i64 t181] rfl (by (try simp only [List.map_toArray, List.map_cons, List.map_nil]); first | done | rfl | (simp only [List.length_drop, List.length_take]; rfl)) ?_; (with_reducible refine (nav_Beside.calls k (wrap64 (t180 + (wrap64 (t182 - 2)))) (wrap64 (t181 + (wrap64 (t183 - 2)))) t180 t181 t185 _ A12.out).mono ?_); rintro e w' ⟨rfl, ⟨nd, rfl⟩⟩; refine ⟨_, rfl, ?_⟩))
      go_ret
      exact ⟨by first | rfl | (simp; done) | (simp [*]; done), by repeat (first | exact Drawn0.refl _ | apply Drawn0.step)⟩
    · rw [if_neg c13] at H
      have c13b0 : (((wrap64 ((wrap64 ((wrap64 (t182 - 2)) * (wrap64 (t182 - 2)))) + (wrap64 ((wrap64 (t183 - 2)) * (wrap64 (t183 - 2)))))) == 1) != (t184 != 0)) = false := by simpa using c13
      (try (have c13b1 : decide (((wrap64 ((wrap64 ((wrap64 (t182 - 2)) * (wrap64 (t182 - 2)))) + (wrap64 ((wrap64 (t183 - 2)) * (wrap64 (t183 - 2)))))) == 1) = (t184 != 0)) = true := by simpa using c13))
      (try (have c13b2 : (((wrap64 ((wrap64 ((wrap64 (t182 - 2)) * (wrap64 (t182 - 2)))) + (wrap64 ((wrap64 (t183 - 2)) * (wrap64 (t183 - 2)))))) == 1) == (t184 != 0)) = true := by simpa using c13))
      clear c13
      by_cases c14 : t184 = 0
      · rw [if_pos c14] at H
        have c14b0 : (t184 == 0) = true := beq_iff_eq.mpr c14
        have c14b1 : (t184 != 0) = false := bne_eq_false_iff_eq.mpr c14
        have c13b9 : ((wrap64 ((wrap64 ((wrap64 (t182 - 2)) * (wrap64 (t182 - 2)))) + (wrap64 ((wrap64 (t183 - 2)) * (wrap64 (t183 - 2)))))) == 1) = false := by simpa [c14b1] using c13b0
        clear c14
        obtain rfl := Option.some.inj H
        go_enter Try.func10, Try.ntmps10
        go_wp2_with (first | ((with_reducible refine gate_callee (f := 26) rfl ?_); refine goesL_ (some 13) rfl rfl Try.func26 (by kernel_rfl) rfl #[] rfl (by (try simp only [List.map_toArray, List.map_cons, List.map_nil]); first | done | rfl | (simp only [List.length_drop, List.length_take]; rfl)) ?_; (with_reducible refine (aditlaw6_known.calls k  true _ A5.out).mono ?_); rintro e w' ⟨rfl, ⟨nd, rfl⟩⟩; refine ⟨_, rfl, ?_⟩) | ((with_reducible refine gate_callee (f := 27) rfl ?_); refine goesL_ (some 16) rfl rfl Try.func27 (by kernel_rfl) rfl #[.int .i64 a0, .int .i64 1000] rfl (by (try simp only [List.map_toArray, List.map_cons, List.map_nil]); first | done | rfl | (simp only [List.length_drop, List.length_take]; rfl)) ?_; (with_reducible refine (aditlaw6_within.calls a0 1000 t180 _ A7.out).mono ?_); rintro e w' ⟨rfl, ⟨nd, rfl⟩⟩; refine ⟨_, rfl, ?_⟩) | ((with_reducible refine gate_callee (f := 27) rfl ?_); refine goesL_ (some 18) rfl rfl Try.func27 (by kernel_rfl) rfl #[.int .i64 a1, .int .i64 1000] rfl (by (try simp only [List.map_toArray, List.map_cons, List.map_nil]); first | done | rfl | (simp only [List.length_drop, List.length_take]; rfl)) ?_; (with_reducible refine (aditlaw6_within.calls a1 1000 t181 _ A8.out).mono ?_); rintro e w' ⟨rfl, ⟨nd, rfl⟩⟩; refine ⟨_, rfl, ?_⟩) | ((with_reducible refine gate_callee (f := 27) rfl ?_); refine goesL_ (some 20) rfl rfl Try.func27 (by kernel_rfl) rfl #[.int .i64 a2, .int .i64 5] rfl (by (try simp only [List.map_toArray, List.map_cons, List.map_nil]); first | done | rfl | (simp only [List.length_drop, List.length_take]; rfl)) ?_; (with_reducible refine (aditlaw6_within.calls a2 5 t182 _ A9.out).mono ?_); rintro e w' ⟨rfl, ⟨nd, rfl⟩⟩; refine ⟨_, rfl, ?_⟩) | ((with_reducible refine gate_callee (f := 27) rfl ?_); refine goesL_ (some 23) rfl rfl Try.func27 (by kernel_rfl) rfl #[.int .i64 a3, .int .i64 5] rfl (by (try simp only [List.map_toArray, List.map_cons, List.map_nil]); first | done | rfl | (simp only [List.length_drop, List.length_take]; rfl)) ?_; (with_reducible refine (aditlaw6_within.calls a3 5 t183 _ A10.out).mono ?_); rintro e w' ⟨rfl, ⟨nd, rfl⟩⟩; refine ⟨_, rfl, ?_⟩) | ((with_reducible refine gate_callee (f := 28) rfl ?_); refine goesL_ (some 33) rfl rfl Try.func28 (by kernel_rfl) rfl #[.int .i64 t180, .int .i64 t181, .int .i64 (wrap64 (t180 + (wrap64 (t182 - 2)))), .int .i64 (wrap64 (t181 + (wrap64 (t183 - 2))))] rfl (by (try simp only [List.map_toArray, List.map_cons, List.map_nil]); first | done | rfl | (simp only [List.length_drop, List.length_take]; rfl)) ?_; (with_reducible refine (nav_Beside.calls k t180 t181 (wrap64 (t180 + (wrap64 (t182 - 2)))) (wrap64 (t181 + (wrap64 (t183 - 2)))) t184 _ A11.out).mono ?_); rintro e w' ⟨rfl, ⟨nd, rfl⟩⟩; refine ⟨_, rfl, ?_⟩) | ((with_reducible refine gate_callee (f := 28) rfl ?_); refine goesL_ (some 42) rfl rfl Try.func28 (by kernel_rfl) rfl #[.int .i64 (wrap64 (t180 + (wrap64 (t182 - 2)))), .int .i64 (wrap64 (t181 + (wrap64 (t183 - 2)))), .int .i64 t180, .int .i64 t181] rfl (by (try simp only [List.map_toArray, List.map_cons, List.map_nil]); first | done | rfl | (simp only [List.length_drop, List.length_take]; rfl)) ?_; (with_reducible refine (nav_Beside.calls k (wrap64 (t180 + (wrap64 (t182 - 2)))) (wrap64 (t181 + (wrap64 (t183 - 2)))) t180 t181 t185 _ A12.out).mono ?_); rintro e w' ⟨rfl, ⟨nd, rfl⟩⟩; refine ⟨_, rfl, ?_⟩))
        go_ret
        exact ⟨by first | rfl | (simp; done) | (simp [*]; done), by repeat (first | exact Drawn0.refl _ | apply Drawn0.step)⟩
      · rw [if_neg c14] at H
        have c14b0 : (t184 == 0) = false := beq_eq_false_iff_ne.mpr c14
        have c14b1 : (t184 != 0) = true := bne_iff_ne.mpr c14
        have c13b9 : ((wrap64 ((wrap64 ((wrap64 (t182 - 2)) * (wrap64 (t182 - 2)))) + (wrap64 ((wrap64 (t183 - 2)) * (wrap64 (t183 - 2)))))) == 1) = true := by simpa [c14b1] using c13b0
        replace H := Option.bind_eq_some_iff.mp H
        obtain ⟨⟨t186, t187⟩, A150, H⟩ := H
        replace H : (if t186 = (wrap64 (t182 - 2)) then (if t187 = (wrap64 (t183 - 2)) then (some ((wrap64 ((Int.tmod (wrap64 (t184 + 1)) 4) + 1)) == t185)) else (some false)) else (some false)) = some r := H
        have A15 := Aside0.mk A150
        clear A150
        by_cases c16 : t186 = (wrap64 (t182 - 2))
        · rw [if_pos c16] at H
          have c16b0 : (t186 == (wrap64 (t182 - 2))) = true := beq_iff_eq.mpr c16
          have c16b1 : (t186 != (wrap64 (t182 - 2))) = false := bne_eq_false_iff_eq.mpr c16
          clear c16
          by_cases c17 : t187 = (wrap64 (t183 - 2))
          · rw [if_pos c17] at H
            have c17b0 : (t187 == (wrap64 (t183 - 2))) = true := beq_iff_eq.mpr c17
            have c17b1 : (t187 != (wrap64 (t183 - 2))) = false := bne_eq_false_iff_eq.mpr c17
            clear c17
            obtain rfl := Option.some.inj H
            go_enter Try.func10, Try.ntmps10
            go_wp2_with (first | ((with_reducible refine gate_callee (f := 26) rfl ?_); refine goesL_ (some 13) rfl rfl Try.func26 (by kernel_rfl) rfl #[] rfl (by (try simp only [List.map_toArray, List.map_cons, List.map_nil]); first | done | rfl | (simp only [List.length_drop, List.length_take]; rfl)) ?_; (with_reducible refine (aditlaw6_known.calls k  true _ A5.out).mono ?_); rintro e w' ⟨rfl, ⟨nd, rfl⟩⟩; refine ⟨_, rfl, ?_⟩) | ((with_reducible refine gate_callee (f := 27) rfl ?_); refine goesL_ (some 16) rfl rfl Try.func27 (by kernel_rfl) rfl #[.int .i64 a0, .int .i64 1000] rfl (by (try simp only [List.map_toArray, List.map_cons, List.map_nil]); first | done | rfl | (simp only [List.length_drop, List.length_take]; rfl)) ?_; (with_reducible refine (aditlaw6_within.calls a0 1000 t180 _ A7.out).mono ?_); rintro e w' ⟨rfl, ⟨nd, rfl⟩⟩; refine ⟨_, rfl, ?_⟩) | ((with_reducible refine gate_callee (f := 27) rfl ?_); refine goesL_ (some 18) rfl rfl Try.func27 (by kernel_rfl) rfl #[.int .i64 a1, .int .i64 1000] rfl (by (try simp only [List.map_toArray, List.map_cons, List.map_nil]); first | done | rfl | (simp only [List.length_drop, List.length_take]; rfl)) ?_; (with_reducible refine (aditlaw6_within.calls a1 1000 t181 _ A8.out).mono ?_); rintro e w' ⟨rfl, ⟨nd, rfl⟩⟩; refine ⟨_, rfl, ?_⟩) | ((with_reducible refine gate_callee (f := 27) rfl ?_); refine goesL_ (some 20) rfl rfl Try.func27 (by kernel_rfl) rfl #[.int .i64 a2, .int .i64 5] rfl (by (try simp only [List.map_toArray, List.map_cons, List.map_nil]); first | done | rfl | (simp only [List.length_drop, List.length_take]; rfl)) ?_; (with_reducible refine (aditlaw6_within.calls a2 5 t182 _ A9.out).mono ?_); rintro e w' ⟨rfl, ⟨nd, rfl⟩⟩; refine ⟨_, rfl, ?_⟩) | ((with_reducible refine gate_callee (f := 27) rfl ?_); refine goesL_ (some 23) rfl rfl Try.func27 (by kernel_rfl) rfl #[.int .i64 a3, .int .i64 5] rfl (by (try simp only [List.map_toArray, List.map_cons, List.map_nil]); first | done | rfl | (simp only [List.length_drop, List.length_take]; rfl)) ?_; (with_reducible refine (aditlaw6_within.calls a3 5 t183 _ A10.out).mono ?_); rintro e w' ⟨rfl, ⟨nd, rfl⟩⟩; refine ⟨_, rfl, ?_⟩) | ((with_reducible refine gate_callee (f := 28) rfl ?_); refine goesL_ (some 33) rfl rfl Try.func28 (by kernel_rfl) rfl #[.int .i64 t180, .int .i64 t181, .int .i64 (wrap64 (t180 + (wrap64 (t182 - 2)))), .int .i64 (wrap64 (t181 + (wrap64 (t183 - 2))))] rfl (by (try simp only [List.map_toArray, List.map_cons, List.map_nil]); first | done | rfl | (simp only [List.length_drop, List.length_take]; rfl)) ?_; (with_reducible refine (nav_Beside.calls k t180 t181 (wrap64 (t180 + (wrap64 (t182 - 2)))) (wrap64 (t181 + (wrap64 (t183 - 2)))) t184 _ A11.out).mono ?_); rintro e w' ⟨rfl, ⟨nd, rfl⟩⟩; refine ⟨_, rfl, ?_⟩) | ((with_reducible refine gate_callee (f := 28) rfl ?_); refine goesL_ (some 42) rfl rfl Try.func28 (by kernel_rfl) rfl #[.int .i64 (wrap64 (t180 + (wrap64 (t182 - 2)))), .int .i64 (wrap64 (t181 + (wrap64 (t183 - 2)))), .int .i64 t180, .int .i64 t181] rfl (by (try simp only [List.map_toArray, List.map_cons, List.map_nil]); first | done | rfl | (simp only [List.length_drop, List.length_take]; rfl)) ?_; (with_reducible refine (nav_Beside.calls k (wrap64 (t180 + (wrap64 (t182 - 2)))) (wrap64 (t181 + (wrap64 (t183 - 2)))) t180 t181 t185 _ A12.out).mono ?_); rintro e w' ⟨rfl, ⟨nd, rfl⟩⟩; refine ⟨_, rfl, ?_⟩) | ((with_reducible refine gate_callee (f := 22) rfl ?_); refine goesL_ (some 60) rfl rfl Try.func22 (by kernel_rfl) rfl #[.int .i64 t184] rfl (by (try simp only [List.map_toArray, List.map_cons, List.map_nil]); first | done | rfl | (simp only [List.length_drop, List.length_take]; rfl)) ?_; (with_reducible refine (aditref1_Way.calls t184 t186 t187 _ A15.out).mono ?_); rintro e w' ⟨rfl, ⟨nd, rfl⟩⟩; refine ⟨_, rfl, ?_⟩))
            go_ret
            exact ⟨by first | rfl | (simp; done) | (simp [*]; done), by repeat (first | exact Drawn0.refl _ | apply Drawn0.step)⟩
          · rw [if_neg c17] at H
            have c17b0 : (t187 == (wrap64 (t183 - 2))) = false := beq_eq_false_iff_ne.mpr c17
            have c17b1 : (t187 != (wrap64 (t183 - 2))) = true := bne_iff_ne.mpr c17
            obtain rfl := Option.some.inj H
            go_enter Try.func10, Try.ntmps10
            go_wp2_with (first | ((with_reducible refine gate_callee (f := 26) rfl ?_); refine goesL_ (some 13) rfl rfl Try.func26 (by kernel_rfl) rfl #[] rfl (by (try simp only [List.map_toArray, List.map_cons, List.map_nil]); first | done | rfl | (simp only [List.length_drop, List.length_take]; rfl)) ?_; (with_reducible refine (aditlaw6_known.calls k  true _ A5.out).mono ?_); rintro e w' ⟨rfl, ⟨nd, rfl⟩⟩; refine ⟨_, rfl, ?_⟩) | ((with_reducible refine gate_callee (f := 27) rfl ?_); refine goesL_ (some 16) rfl rfl Try.func27 (by kernel_rfl) rfl #[.int .i64 a0, .int .i64 1000] rfl (by (try simp only [List.map_toArray, List.map_cons, List.map_nil]); first | done | rfl | (simp only [List.length_drop, List.length_take]; rfl)) ?_; (with_reducible refine (aditlaw6_within.calls a0 1000 t180 _ A7.out).mono ?_); rintro e w' ⟨rfl, ⟨nd, rfl⟩⟩; refine ⟨_, rfl, ?_⟩) | ((with_reducible refine gate_callee (f := 27) rfl ?_); refine goesL_ (some 18) rfl rfl Try.func27 (by kernel_rfl) rfl #[.int .i64 a1, .int .i64 1000] rfl (by (try simp only [List.map_toArray, List.map_cons, List.map_nil]); first | done | rfl | (simp only [List.length_drop, List.length_take]; rfl)) ?_; (with_reducible refine (aditlaw6_within.calls a1 1000 t181 _ A8.out).mono ?_); rintro e w' ⟨rfl, ⟨nd, rfl⟩⟩; refine ⟨_, rfl, ?_⟩) | ((with_reducible refine gate_callee (f := 27) rfl ?_); refine goesL_ (some 20) rfl rfl Try.func27 (by kernel_rfl) rfl #[.int .i64 a2, .int .i64 5] rfl (by (try simp only [List.map_toArray, List.map_cons, List.map_nil]); first | done | rfl | (simp only [List.length_drop, List.length_take]; rfl)) ?_; (with_reducible refine (aditlaw6_within.calls a2 5 t182 _ A9.out).mono ?_); rintro e w' ⟨rfl, ⟨nd, rfl⟩⟩; refine ⟨_, rfl, ?_⟩) | ((with_reducible refine gate_callee (f := 27) rfl ?_); refine goesL_ (some 23) rfl rfl Try.func27 (by kernel_rfl) rfl #[.int .i64 a3, .int .i64 5] rfl (by (try simp only [List.map_toArray, List.map_cons, List.map_nil]); first | done | rfl | (simp only [List.length_drop, List.length_take]; rfl)) ?_; (with_reducible refine (aditlaw6_within.calls a3 5 t183 _ A10.out).mono ?_); rintro e w' ⟨rfl, ⟨nd, rfl⟩⟩; refine ⟨_, rfl, ?_⟩) | ((with_reducible refine gate_callee (f := 28) rfl ?_); refine goesL_ (some 33) rfl rfl Try.func28 (by kernel_rfl) rfl #[.int .i64 t180, .int .i64 t181, .int .i64 (wrap64 (t180 + (wrap64 (t182 - 2)))), .int .i64 (wrap64 (t181 + (wrap64 (t183 - 2))))] rfl (by (try simp only [List.map_toArray, List.map_cons, List.map_nil]); first | done | rfl | (simp only [List.length_drop, List.length_take]; rfl)) ?_; (with_reducible refine (nav_Beside.calls k t180 t181 (wrap64 (t180 + (wrap64 (t182 - 2)))) (wrap64 (t181 + (wrap64 (t183 - 2)))) t184 _ A11.out).mono ?_); rintro e w' ⟨rfl, ⟨nd, rfl⟩⟩; refine ⟨_, rfl, ?_⟩) | ((with_reducible refine gate_callee (f := 28) rfl ?_); refine goesL_ (some 42) rfl rfl Try.func28 (by kernel_rfl) rfl #[.int .i64 (wrap64 (t180 + (wrap64 (t182 - 2)))), .int .i64 (wrap64 (t181 + (wrap64 (t183 - 2)))), .int .i64 t180, .int .i64 t181] rfl (by (try simp only [List.map_toArray, List.map_cons, List.map_nil]); first | done | rfl | (simp only [List.length_drop, List.length_take]; rfl)) ?_; (with_reducible refine (nav_Beside.calls k (wrap64 (t180 + (wrap64 (t182 - 2)))) (wrap64 (t181 + (wrap64 (t183 - 2)))) t180 t181 t185 _ A12.out).mono ?_); rintro e w' ⟨rfl, ⟨nd, rfl⟩⟩; refine ⟨_, rfl, ?_⟩) | ((with_reducible refine gate_callee (f := 22) rfl ?_); refine goesL_ (some 60) rfl rfl Try.func22 (by kernel_rfl) rfl #[.int .i64 t184] rfl (by (try simp only [List.map_toArray, List.map_cons, List.map_nil]); first | done | rfl | (simp only [List.length_drop, List.length_take]; rfl)) ?_; (with_reducible refine (aditref1_Way.calls t184 t186 t187 _ A15.out).mono ?_); rintro e w' ⟨rfl, ⟨nd, rfl⟩⟩; refine ⟨_, rfl, ?_⟩))
            go_ret
            exact ⟨by first | rfl | (simp; done) | (simp [*]; done), by repeat (first | exact Drawn0.refl _ | apply Drawn0.step)⟩
        · rw [if_neg c16] at H
          have c16b0 : (t186 == (wrap64 (t182 - 2))) = false := beq_eq_false_iff_ne.mpr c16
          have c16b1 : (t186 != (wrap64 (t182 - 2))) = true := bne_iff_ne.mpr c16
          obtain rfl := Option.some.inj H
          go_enter Try.func10, Try.ntmps10
          go_wp2_with (first | ((with_reducible refine gate_callee (f := 26) rfl ?_); refine goesL_ (some 13) rfl rfl Try.func26 (by kernel_rfl) rfl #[] rfl (by (try simp only [List.map_toArray, List.map_cons, List.map_nil]); first | done | rfl | (simp only [List.length_drop, List.length_take]; rfl)) ?_; (with_reducible refine (aditlaw6_known.calls k  true _ A5.out).mono ?_); rintro e w' ⟨rfl, ⟨nd, rfl⟩⟩; refine ⟨_, rfl, ?_⟩) | ((with_reducible refine gate_callee (f := 27) rfl ?_); refine goesL_ (some 16) rfl rfl Try.func27 (by kernel_rfl) rfl #[.int .i64 a0, .int .i64 1000] rfl (by (try simp only [List.map_toArray, List.map_cons, List.map_nil]); first | done | rfl | (simp only [List.length_drop, List.length_take]; rfl)) ?_; (with_reducible refine (aditlaw6_within.calls a0 1000 t180 _ A7.out).mono ?_); rintro e w' ⟨rfl, ⟨nd, rfl⟩⟩; refine ⟨_, rfl, ?_⟩) | ((with_reducible refine gate_callee (f := 27) rfl ?_); refine goesL_ (some 18) rfl rfl Try.func27 (by kernel_rfl) rfl #[.int .i64 a1, .int .i64 1000] rfl (by (try simp only [List.map_toArray, List.map_cons, List.map_nil]); first | done | rfl | (simp only [List.length_drop, List.length_take]; rfl)) ?_; (with_reducible refine (aditlaw6_within.calls a1 1000 t181 _ A8.out).mono ?_); rintro e w' ⟨rfl, ⟨nd, rfl⟩⟩; refine ⟨_, rfl, ?_⟩) | ((with_reducible refine gate_callee (f := 27) rfl ?_); refine goesL_ (some 20) rfl rfl Try.func27 (by kernel_rfl) rfl #[.int .i64 a2, .int .i64 5] rfl (by (try simp only [List.map_toArray, List.map_cons, List.map_nil]); first | done | rfl | (simp only [List.length_drop, List.length_take]; rfl)) ?_; (with_reducible refine (aditlaw6_within.calls a2 5 t182 _ A9.out).mono ?_); rintro e w' ⟨rfl, ⟨nd, rfl⟩⟩; refine ⟨_, rfl, ?_⟩) | ((with_reducible refine gate_callee (f := 27) rfl ?_); refine goesL_ (some 23) rfl rfl Try.func27 (by kernel_rfl) rfl #[.int .i64 a3, .int .i64 5] rfl (by (try simp only [List.map_toArray, List.map_cons, List.map_nil]); first | done | rfl | (simp only [List.length_drop, List.length_take]; rfl)) ?_; (with_reducible refine (aditlaw6_within.calls a3 5 t183 _ A10.out).mono ?_); rintro e w' ⟨rfl, ⟨nd, rfl⟩⟩; refine ⟨_, rfl, ?_⟩) | ((with_reducible refine gate_callee (f := 28) rfl ?_); refine goesL_ (some 33) rfl rfl Try.func28 (by kernel_rfl) rfl #[.int .i64 t180, .int .i64 t181, .int .i64 (wrap64 (t180 + (wrap64 (t182 - 2)))), .int .i64 (wrap64 (t181 + (wrap64 (t183 - 2))))] rfl (by (try simp only [List.map_toArray, List.map_cons, List.map_nil]); first | done | rfl | (simp only [List.length_drop, List.length_take]; rfl)) ?_; (with_reducible refine (nav_Beside.calls k t180 t181 (wrap64 (t180 + (wrap64 (t182 - 2)))) (wrap64 (t181 + (wrap64 (t183 - 2)))) t184 _ A11.out).mono ?_); rintro e w' ⟨rfl, ⟨nd, rfl⟩⟩; refine ⟨_, rfl, ?_⟩) | ((with_reducible refine gate_callee (f := 28) rfl ?_); refine goesL_ (some 42) rfl rfl Try.func28 (by kernel_rfl) rfl #[.int .i64 (wrap64 (t180 + (wrap64 (t182 - 2)))), .int .i64 (wrap64 (t181 + (wrap64 (t183 - 2)))), .int .i64 t180, .int .i64 t181] rfl (by (try simp only [List.map_toArray, List.map_cons, List.map_nil]); first | done | rfl | (simp only [List.length_drop, List.length_take]; rfl)) ?_; (with_reducible refine (nav_Beside.calls k (wrap64 (t180 + (wrap64 (t182 - 2)))) (wrap64 (t181 + (wrap64 (t183 - 2)))) t180 t181 t185 _ A12.out).mono ?_); rintro e w' ⟨rfl, ⟨nd, rfl⟩⟩; refine ⟨_, rfl, ?_⟩) | ((with_reducible refine gate_callee (f := 22) rfl ?_); refine goesL_ (some 60) rfl rfl Try.func22 (by kernel_rfl) rfl #[.int .i64 t184] rfl (by (try simp only [List.map_toArray, List.map_cons, List.map_nil]); first | done | rfl | (simp only [List.length_drop, List.length_take]; rfl)) ?_; (with_reducible refine (aditref1_Way.calls t184 t186 t187 _ A15.out).mono ?_); rintro e w' ⟨rfl, ⟨nd, rfl⟩⟩; refine ⟨_, rfl, ?_⟩))
          go_ret
          exact ⟨by first | rfl | (simp; done) | (simp [*]; done), by repeat (first | exact Drawn0.refl _ | apply Drawn0.step)⟩
  · replace c6 := Bool.eq_false_iff.mpr c6
    subst c6
    have H1 : (some false) = some r := by rw [if_neg (show ¬ (false = true) by decide)] at H; exact H
    clear H
    have H := H1
    clear H1
    obtain rfl := Option.some.inj H
    go_enter Try.func10, Try.ntmps10
    go_wp2_with (first | ((with_reducible refine gate_callee (f := 26) rfl ?_); refine goesL_ (some 13) rfl rfl Try.func26 (by kernel_rfl) rfl #[] rfl (by (try simp only [List.map_toArray, List.map_cons, List.map_nil]); first | done | rfl | (simp only [List.length_drop, List.length_take]; rfl)) ?_; (with_reducible refine (aditlaw6_known.calls k  false _ A5.out).mono ?_); rintro e w' ⟨rfl, ⟨nd, rfl⟩⟩; refine ⟨_, rfl, ?_⟩))
    go_ret
    exact ⟨by first | rfl | (simp; done) | (simp [*]; done), by repeat (first | exact Drawn0.refl _ | apply Drawn0.step)⟩

/-- THE ONE PURE STATEMENT of aditlaw6_NavNear: yours. -/
def aditlaw6_NavNear.Pure : Prop := ∀ (a0 : Int) (a1 : Int) (a2 : Int) (a3 : Int), (Lit.int .i64 a0).wf = true → (Lit.int .i64 a1).wf = true → (Lit.int .i64 a2).wf = true → (Lit.int .i64 a3).wf = true → ∃ k, aditlaw6_NavNear.f k a0 a1 a2 a3 = some true
theorem aditlaw6_NavNear.walk (P : aditlaw6_NavNear.Pure) (a0 : Int) (a1 : Int) (a2 : Int) (a3 : Int) (w : World) (w0 : (Lit.int .i64 a0).wf = true) (w1 : (Lit.int .i64 a1).wf = true) (w2 : (Lit.int .i64 a2).wf = true) (w3 : (Lit.int .i64 a3).wf = true) :
    Calls Try.prog 10 #[.int .i64 a0, .int .i64 a1, .int .i64 a2, .int .i64 a3] w fun e w' => e = .returned (.bool true) ∧ Below w.heap.size w w' := by
  obtain ⟨k, h⟩ := P a0 a1 a2 a3 w0 w1 w2 w3
  refine (aditlaw6_NavNear.calls k a0 a1 a2 a3 true w h).mono ?_
  rintro e w' ⟨rfl, hd⟩
  exact ⟨rfl, hd.below⟩

end Go.Proofs.Ytkdbglmkpkliaaa.Q

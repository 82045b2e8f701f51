/- By a program of this session's own, over the translation and the contracts by hand: each function's answers as a Lean function, and that the code comes to them. -/
import Derived.Test.YtkdbglmkpkliaaaQ0
import Derived.Test.YtkdbglmkpkliaaaQ1
import Derived.Test.YtkdbglmkpkliaaaQ2
namespace Go.Proofs.Ytkdbglmkpkliaaa.Q
open Go.RowKit Go.Proofs.YtkdbglmkpkliaaaW.PrintWords Go.Proofs.YtkdbglmkpkliaaaW.PrintLast Go.Proofs.YtkdbglmkpkliaaaW.PrintMore
attribute [local go_sem] max2_int min2_int max_two min_two max_three min_three max_four min_four   -- for this text's walks alone
set_option linter.unusedVariables false
set_option linter.unusedSimpArgs false

/-! ### aditlaw1_FixSquares: function 5 -/
def aditlaw1_FixSquares.f (k : Nat) (a0 : Int) : Option (Bool) := (aditlaw1_known.f k).bind fun t144 => (if t144 = true then ((aditlaw1_within.f a0 2147483648).bind fun t145 => ((fix_Root.f k (wrap64 (t145 * t145))).bind fun t146 => (if t146 = t145 then (if t145 = 0 then ((fix_Dist.f k (Int.tmod t145 1000) 0).bind fun t147 => (some (t147 == (wrap64 (256 * (Int.tmod t145 1000)))))) else ((fix_Root.f k (wrap64 ((wrap64 (t145 * t145)) - 1))).bind fun t148 => (if t148 = (wrap64 (t145 - 1)) then ((fix_Dist.f k (Int.tmod t145 1000) 0).bind fun t149 => (some (t149 == (wrap64 (256 * (Int.tmod t145 1000)))))) else (some false)))) else (some false)))) else (some false))
theorem aditlaw1_FixSquares.mono : ∀ a0 k, LeO (aditlaw1_FixSquares.f k a0) (aditlaw1_FixSquares.f (k + 1) a0) := by
  intro a0 k
  unfold aditlaw1_FixSquares.f
  repeat' first
      | (with_reducible exact aditlaw1_known.mono _)
      | (with_reducible exact fix_Dist.mono _ _ _)
      | (with_reducible exact fix_Root.mono _ _)
      | (with_reducible exact LeO.refl _)
      | (with_reducible exact LeO.none _)
      | (with_reducible refine LeO.ite ?_ ?_)
      | (with_reducible refine LeO.bind ?_ (fun _ => ?_))
      | exact aditlaw1_known.mono _
      | exact fix_Dist.mono _ _ _
      | exact fix_Root.mono _ _
      | exact LeO.none _
      | refine LeO.ite ?_ ?_
      | refine LeO.bind ?_ (fun _ => ?_)
set_option maxHeartbeats 8000000 in
set_option maxRecDepth 100000 in
theorem aditlaw1_FixSquares.calls (k : Nat) (a0 : Int) (r : Bool) (w : World) (h : aditlaw1_FixSquares.f k a0 = some r) :
    Calls Try.prog 5 #[.int .i64 a0] w fun e w' => e = .returned (.bool r) ∧ Drawn0 w w' := by
  have H : ((aditlaw1_known.f k).bind fun t144 => (if t144 = true then ((aditlaw1_within.f a0 2147483648).bind fun t145 => ((fix_Root.f k (wrap64 (t145 * t145))).bind fun t146 => (if t146 = t145 then (if t145 = 0 then ((fix_Dist.f k (Int.tmod t145 1000) 0).bind fun t147 => (some (t147 == (wrap64 (256 * (Int.tmod t145 1000)))))) else ((fix_Root.f k (wrap64 ((wrap64 (t145 * t145)) - 1))).bind fun t148 => (if t148 = (wrap64 (t145 - 1)) then ((fix_Dist.f k (Int.tmod t145 1000) 0).bind fun t149 => (some (t149 == (wrap64 (256 * (Int.tmod t145 1000)))))) else (some false)))) else (some false)))) else (some false))) = some r := h
  clear h
  replace H := Option.bind_eq_some_iff.mp H
  obtain ⟨t144, A20, H⟩ := H
  replace H : (if t144 = true then ((aditlaw1_within.f a0 2147483648).bind fun t145 => ((fix_Root.f k (wrap64 (t145 * t145))).bind fun t146 => (if t146 = t145 then (if t145 = 0 then ((fix_Dist.f k (Int.tmod t145 1000) 0).bind fun t147 => (some (t147 == (wrap64 (256 * (Int.tmod t145 1000)))))) else ((fix_Root.f k (wrap64 ((wrap64 (t145 * t145)) - 1))).bind fun t148 => (if t148 = (wrap64 (t145 - 1)) then ((fix_Dist.f k (Int.tmod t145 1000) 0).bind fun t149 => (some (t149 == (wrap64 (256 * (Int.tmod t145 1000)))))) else (some false)))) else (some false)))) else (some false)) = some r := H
  have A2 := Aside0.mk A20
  clear A20
  by_cases c3 : t144 = true
  · subst c3
    have H1 : ((aditlaw1_within.f a0 2147483648).bind fun t145 => ((fix_Root.f k (wrap64 (t145 * t145))).bind fun t146 => (if t146 = t145 then (if t145 = 0 then ((fix_Dist.f k (Int.tmod t145 1000) 0).bind fun t147 => (some (t147 == (wrap64 (256 * (Int.tmod t145 1000)))))) else ((fix_Root.f k (wrap64 ((wrap64 (t145 * t145)) - 1))).bind fun t148 => (if t148 = (wrap64 (t145 - 1)) then ((fix_Dist.f k (Int.tmod t145 1000) 0).bind fun t149 => (some (t149 == (wrap64 (256 * (Int.tmod t145 1000)))))) else (some false)))) else (some false)))) = some r := by rw [if_pos rfl] at H; exact H
    clear H
    have H := H1
    clear H1
    replace H := Option.bind_eq_some_iff.mp H
    obtain ⟨t145, A40, H⟩ := H
    replace H : ((fix_Root.f k (wrap64 (t145 * t145))).bind fun t146 => (if t146 = t145 then (if t145 = 0 then ((fix_Dist.f k (Int.tmod t145 1000) 0).bind fun t147 => (some (t147 == (wrap64 (256 * (Int.tmod t145 1000)))))) else ((fix_Root.f k (wrap64 ((wrap64 (t145 * t145)) - 1))).bind fun t148 => (if t148 = (wrap64 (t145 - 1)) then ((fix_Dist.f k (Int.tmod t145 1000) 0).bind fun t149 => (some (t149 == (wrap64 (256 * (Int.tmod t145 1000)))))) else (some false)))) else (some false))) = some r := H
    have A4 := Aside0.mk A40
    clear A40
    replace H := Option.bind_eq_some_iff.mp H
    obtain ⟨t146, A50, H⟩ := H
    replace H : (if t146 = t145 then (if t145 = 0 then ((fix_Dist.f k (Int.tmod t145 1000) 0).bind fun t147 => (some (t147 == (wrap64 (256 * (Int.tmod t145 1000)))))) else ((fix_Root.f k (wrap64 ((wrap64 (t145 * t145)) - 1))).bind fun t148 => (if t148 = (wrap64 (t145 - 1)) then ((fix_Dist.f k (Int.tmod t145 1000) 0).bind fun t149 => (some (t149 == (wrap64 (256 * (Int.tmod t145 1000)))))) else (some false)))) else (some false)) = some r := H
    have A5 := Aside0.mk A50
    clear A50
    by_cases c6 : t146 = t145
    · rw [if_pos c6] at H
      have c6b0 : (t146 == t145) = true := beq_iff_eq.mpr c6
      have c6b1 : (t146 != t145) = false := bne_eq_false_iff_eq.mpr c6
      clear c6
      by_cases c7 : t145 = 0
      · rw [if_pos c7] at H
        have c7b0 : (t145 == 0) = true := beq_iff_eq.mpr c7
        have c7b1 : (t145 != 0) = false := bne_eq_false_iff_eq.mpr c7
        clear c7
        replace H := Option.bind_eq_some_iff.mp H
        obtain ⟨t147, A80, H⟩ := H
        replace H : (some (t147 == (wrap64 (256 * (Int.tmod t145 1000))))) = some r := H
        have A8 := Aside0.mk A80
        clear A80
        obtain rfl := Option.some.inj H
        go_enter Try.func5, Try.ntmps5
        go_wp2_with (first | ((with_reducible refine gate_callee (f := 11) rfl ?_); refine goesL_ (some 3) rfl rfl Try.func11 (by kernel_rfl) rfl #[] rfl (by (try simp only [List.map_toArray, List.map_cons, List.map_nil]); first | done | rfl | (simp only [List.length_drop, List.length_take]; rfl)) ?_; (with_reducible refine (aditlaw1_known.calls k  true _ A2.out).mono ?_); rintro e w' ⟨rfl, ⟨nd, rfl⟩⟩; refine ⟨_, rfl, ?_⟩) | ((with_reducible refine gate_callee (f := 16) rfl ?_); refine goesL_ (some 6) rfl rfl Try.func16 (by kernel_rfl) rfl #[.int .i64 a0, .int .i64 2147483648] rfl (by (try simp only [List.map_toArray, List.map_cons, List.map_nil]); first | done | rfl | (simp only [List.length_drop, List.length_take]; rfl)) ?_; (with_reducible refine (aditlaw1_within.calls a0 2147483648 t145 _ A4.out).mono ?_); rintro e w' ⟨rfl, ⟨nd, rfl⟩⟩; refine ⟨_, rfl, ?_⟩) | ((with_reducible refine gate_callee (f := 14) rfl ?_); refine goesL_ (some 10) rfl rfl Try.func14 (by kernel_rfl) rfl #[.int .i64 (wrap64 (t145 * t145))] rfl (by (try simp only [List.map_toArray, List.map_cons, List.map_nil]); first | done | rfl | (simp only [List.length_drop, List.length_take]; rfl)) ?_; (with_reducible refine (fix_Root.calls k (wrap64 (t145 * t145)) t146 _ A5.out).mono ?_); rintro e w' ⟨rfl, ⟨nd, rfl⟩⟩; refine ⟨_, rfl, ?_⟩) | (go_at_call 17; (with_reducible refine (fix_Dist.calls k (Int.tmod t145 1000) 0 t147 _ A8.out).mono ?_); rintro e w' ⟨rfl, ⟨nd, rfl⟩⟩))
        go_ret
        exact ⟨by first | rfl | (simp; done) | (simp [*]; done), by repeat (first | exact Drawn0.refl _ | apply Drawn0.step)⟩
      · rw [if_neg c7] at H
        have c7b0 : (t145 == 0) = false := beq_eq_false_iff_ne.mpr c7
        have c7b1 : (t145 != 0) = true := bne_iff_ne.mpr c7
        replace H := Option.bind_eq_some_iff.mp H
        obtain ⟨t148, A90, H⟩ := H
        replace H : (if t148 = (wrap64 (t145 - 1)) then ((fix_Dist.f k (Int.tmod t145 1000) 0).bind fun t149 => (some (t149 == (wrap64 (256 * (Int.tmod t145 1000)))))) else (some false)) = some r := H
        have A9 := Aside0.mk A90
        clear A90
        by_cases c10 : t148 = (wrap64 (t145 - 1))
        · rw [if_pos c10] at H
          have c10b0 : (t148 == (wrap64 (t145 - 1))) = true := beq_iff_eq.mpr c10
          have c10b1 : (t148 != (wrap64 (t145 - 1))) = false := bne_eq_false_iff_eq.mpr c10
          clear c10
          replace H := Option.bind_eq_some_iff.mp H
          obtain ⟨t149, A110, H⟩ := H
          replace H : (some (t149 == (wrap64 (256 * (Int.tmod t145 1000))))) = some r := H
          have A11 := Aside0.mk A110
          clear A110
          obtain rfl := Option.some.inj H
          go_enter Try.func5, Try.ntmps5
          go_wp2_with (first | ((with_reducible refine gate_callee (f := 11) rfl ?_); refine goesL_ (some 3) rfl rfl Try.func11 (by kernel_rfl) rfl #[] rfl (by (try simp only [List.map_toArray, List.map_cons, List.map_nil]); first | done | rfl | (simp only [List.length_drop, List.length_take]; rfl)) ?_; (with_reducible refine (aditlaw1_known.calls k  true _ A2.out).mono ?_); rintro e w' ⟨rfl, ⟨nd, rfl⟩⟩; refine ⟨_, rfl, ?_⟩) | ((with_reducible refine gate_callee (f := 16) rfl ?_); refine goesL_ (some 6) rfl rfl Try.func16 (by kernel_rfl) rfl #[.int .i64 a0, .int .i64 2147483648] rfl (by (try simp only [List.map_toArray, List.map_cons, List.map_nil]); first | done | rfl | (simp only [List.length_drop, List.length_take]; rfl)) ?_; (with_reducible refine (aditlaw1_within.calls a0 2147483648 t145 _ A4.out).mono ?_); rintro e w' ⟨rfl, ⟨nd, rfl⟩⟩; refine ⟨_, rfl, ?_⟩) | ((with_reducible refine gate_callee (f := 14) rfl ?_); refine goesL_ (some 10) rfl rfl Try.func14 (by kernel_rfl) rfl #[.int .i64 (wrap64 (t145 * t145))] rfl (by (try simp only [List.map_toArray, List.map_cons, List.map_nil]); first | done | rfl | (simp only [List.length_drop, List.length_take]; rfl)) ?_; (with_reducible refine (fix_Root.calls k (wrap64 (t145 * t145)) t146 _ A5.out).mono ?_); rintro e w' ⟨rfl, ⟨nd, rfl⟩⟩; refine ⟨_, rfl, ?_⟩) | (go_at_call 14; (with_reducible refine (fix_Root.calls k (wrap64 ((wrap64 (t145 * t145)) - 1)) t148 _ A9.out).mono ?_); rintro e w' ⟨rfl, ⟨nd, rfl⟩⟩) | (go_at_call 17; (with_reducible refine (fix_Dist.calls k (Int.tmod t145 1000) 0 t149 _ A11.out).mono ?_); rintro e w' ⟨rfl, ⟨nd, rfl⟩⟩))
          go_ret
          exact ⟨by first | rfl | (simp; done) | (simp [*]; done), by repeat (first | exact Drawn0.refl _ | apply Drawn0.step)⟩
        · rw [if_neg c10] at H
          have c10b0 : (t148 == (wrap64 (t145 - 1))) = false := beq_eq_false_iff_ne.mpr c10
          have c10b1 : (t148 != (wrap64 (t145 - 1))) = true := bne_iff_ne.mpr c10
          obtain rfl := Option.some.inj H
          go_enter Try.func5, Try.ntmps5
          go_wp2_with (first | ((with_reducible refine gate_callee (f := 11) rfl ?_); refine goesL_ (some 3) rfl rfl Try.func11 (by kernel_rfl) rfl #[] rfl (by (try simp only [List.map_toArray, List.map_cons, List.map_nil]); first | done | rfl | (simp only [List.length_drop, List.length_take]; rfl)) ?_; (with_reducible refine (aditlaw1_known.calls k  true _ A2.out).mono ?_); rintro e w' ⟨rfl, ⟨nd, rfl⟩⟩; refine ⟨_, rfl, ?_⟩) | ((with_reducible refine gate_callee (f := 16) rfl ?_); refine goesL_ (some 6) rfl rfl Try.func16 (by kernel_rfl) rfl #[.int .i64 a0, .int .i64 2147483648] rfl (by (try simp only [List.map_toArray, List.map_cons, List.map_nil]); first | done | rfl | (simp only [List.length_drop, List.length_take]; rfl)) ?_; (with_reducible refine (aditlaw1_within.calls a0 2147483648 t145 _ A4.out).mono ?_); rintro e w' ⟨rfl, ⟨nd, rfl⟩⟩; refine ⟨_, rfl, ?_⟩) | ((with_reducible refine gate_callee (f := 14) rfl ?_); refine goesL_ (some 10) rfl rfl Try.func14 (by kernel_rfl) rfl #[.int .i64 (wrap64 (t145 * t145))] rfl (by (try simp only [List.map_toArray, List.map_cons, List.map_nil]); first | done | rfl | (simp only [List.length_drop, List.length_take]; rfl)) ?_; (with_reducible refine (fix_Root.calls k (wrap64 (t145 * t145)) t146 _ A5.out).mono ?_); rintro e w' ⟨rfl, ⟨nd, rfl⟩⟩; refine ⟨_, rfl, ?_⟩) | (go_at_call 14; (with_reducible refine (fix_Root.calls k (wrap64 ((wrap64 (t145 * t145)) - 1)) t148 _ A9.out).mono ?_); rintro e w' ⟨rfl, ⟨nd, rfl⟩⟩))
          go_ret
          exact ⟨by first | rfl | (simp; done) | (simp [*]; done), by repeat (first | exact Drawn0.refl _ | apply Drawn0.step)⟩
    · rw [if_neg c6] at H
      have c6b0 : (t146 == t145) = false := beq_eq_false_iff_ne.mpr c6
      have c6b1 : (t146 != t145) = true := bne_iff_ne.mpr c6
      obtain rfl := Option.some.inj H
      go_enter Try.func5, Try.ntmps5
      go_wp2_with (first | ((with_reducible refine gate_callee (f := 11) rfl ?_); refine goesL_ (some 3) rfl rfl Try.func11 (by kernel_rfl) rfl #[] rfl (by (try simp only [List.map_toArray, List.map_cons, List.map_nil]); first | done | rfl | (simp only [List.length_drop, List.length_take]; rfl)) ?_; (with_reducible refine (aditlaw1_known.calls k  true _ A2.out).mono ?_); rintro e w' ⟨rfl, ⟨nd, rfl⟩⟩; refine ⟨_, rfl, ?_⟩) | ((with_reducible refine gate_callee (f := 16) rfl ?_); refine goesL_ (some 6) rfl rfl Try.func16 (by kernel_rfl) rfl #[.int .i64 a0, .int .i64 2147483648] rfl (by (try simp only [List.map_toArray, List.map_cons, List.map_nil]); first | done | rfl | (simp only [List.length_drop, List.length_take]; rfl)) ?_; (with_reducible refine (aditlaw1_within.calls a0 2147483648 t145 _ A4.out).mono ?_); rintro e w' ⟨rfl, ⟨nd, rfl⟩⟩; refine ⟨_, rfl, ?_⟩) | ((with_reducible refine gate_callee (f := 14) rfl ?_); refine goesL_ (some 10) rfl rfl Try.func14 (by kernel_rfl) rfl #[.int .i64 (wrap64 (t145 * t145))] rfl (by (try simp only [List.map_toArray, List.map_cons, List.map_nil]); first | done | rfl | (simp only [List.length_drop, List.length_take]; rfl)) ?_; (with_reducible refine (fix_Root.calls k (wrap64 (t145 * t145)) t146 _ A5.out).mono ?_); rintro e w' ⟨rfl, ⟨nd, rfl⟩⟩; refine ⟨_, rfl, ?_⟩))
      go_ret
      exact ⟨by first | rfl | (simp; done) | (simp [*]; done), by repeat (first | exact Drawn0.refl _ | apply Drawn0.step)⟩
  · replace c3 := Bool.eq_false_iff.mpr c3
    subst c3
    have H1 : (some false) = some r := by rw [if_neg (show ¬ (false = true) by decide)] at H; exact H
    clear H
    have H := H1
    clear H1
    obtain rfl := Option.some.inj H
    go_enter Try.func5, Try.ntmps5
    go_wp2_with (first | ((with_reducible refine gate_callee (f := 11) rfl ?_); refine goesL_ (some 3) rfl rfl Try.func11 (by kernel_rfl) rfl #[] rfl (by (try simp only [List.map_toArray, List.map_cons, List.map_nil]); first | done | rfl | (simp only [List.length_drop, List.length_take]; rfl)) ?_; (with_reducible refine (aditlaw1_known.calls k  false _ A2.out).mono ?_); rintro e w' ⟨rfl, ⟨nd, rfl⟩⟩; refine ⟨_, rfl, ?_⟩))
    go_ret
    exact ⟨by first | rfl | (simp; done) | (simp [*]; done), by repeat (first | exact Drawn0.refl _ | apply Drawn0.step)⟩

/-- THE ONE PURE STATEMENT of aditlaw1_FixSquares: yours. -/
def aditlaw1_FixSquares.Pure : Prop := ∀ (a0 : Int), (Lit.int .i64 a0).wf = true → ∃ k, aditlaw1_FixSquares.f k a0 = some true
theorem aditlaw1_FixSquares.walk (P : aditlaw1_FixSquares.Pure) (a0 : Int) (w : World) (w0 : (Lit.int .i64 a0).wf = true) :
    Calls Try.prog 5 #[.int .i64 a0] w fun e w' => e = .returned (.bool true) ∧ Below w.heap.size w w' := by
  obtain ⟨k, h⟩ := P a0 w0
  refine (aditlaw1_FixSquares.calls k a0 true w h).mono ?_
  rintro e w' ⟨rfl, hd⟩
  exact ⟨rfl, hd.below⟩

end Go.Proofs.Ytkdbglmkpkliaaa.Q

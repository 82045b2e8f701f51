/- By a program of this session's own, over the translation and the contracts by hand: each function's answers as a Lean function, and that the code comes to them. -/
import Derived.Test.YtjpcmpeigoikkaaQ0
import Derived.Test.YtjpcmpeigoikkaaQ7
import Derived.Test.YtjpcmpeigoikkaaQ9
namespace Go.Proofs.Ytjpcmpeigoikkaa.Q
open Go.RowKit Go.Proofs.YtjpcmpeigoikkaaW.PrintWords Go.Proofs.YtjpcmpeigoikkaaW.PrintLast Go.Proofs.YtjpcmpeigoikkaaW.PrintMore
attribute [local go_sem] max2_int min2_int max_two min_two max_three min_three max_four min_four   -- for this text's walks alone
set_option linter.unusedVariables false
set_option linter.unusedSimpArgs false

/-! ### aditref3_Line: function 12 -/
mutual
def aditref3_Line.j0 : Nat → Int → Int → Int → Int → Bool → Option (List Int)
  | 0, _, _, _, _, _ => none
  | k + 1, x0, x1, x2, x3, x23 => if x23 = true then (some ([] : List Int)) else (if (mx (mx (wrap64 (x2 - x0)) (wrap64 (-(wrap64 (x2 - x0))))) (mx (wrap64 (x3 - x1)) (wrap64 (-(wrap64 (x3 - x1)))))) = 0 then (some (([wrap64 ((wrap64 (x1 * 24)) + x0)] : List Int))) else (aditref3_Line.l0 k x0 x1 (wrap64 (x2 - x0)) (wrap64 (x3 - x1)) (mx (mx (wrap64 (x2 - x0)) (wrap64 (-(wrap64 (x2 - x0))))) (mx (wrap64 (x3 - x1)) (wrap64 (-(wrap64 (x3 - x1)))))) ([] : List Int) 0))
def aditref3_Line.l0 : Nat → Int → Int → Int → Int → Int → List Int → Int → Option (List Int)
  | 0, _, _, _, _, _, _, _ => none
  | k + 1, x0, x1, x9, x10, x11, x12, x13 => if x13 ≤ x11 then ((aditref3_off.f (wrap64 (x13 * x10)) x11).bind fun t213 => ((aditref3_off.f (wrap64 (x13 * x9)) x11).bind fun t214 => (if x12.length < 17592186044416 then (aditref3_Line.l0 k x0 x1 x9 x10 x11 (x12 ++ [wrap64 ((wrap64 ((wrap64 ((wrap64 (x1 + t213)) * 24)) + x0)) + t214)]) (wrap64 (x13 + 1))) else (none)))) else (some x12)
end
def aditref3_Line.f (k : Nat) (a0 : Int) (a1 : Int) (a2 : Int) (a3 : Int) : Option (List Int) := (aditref3_In.f a0 a1).bind fun t208 => (if t208 = true then ((aditref3_In.f a2 a3).bind fun t209 => (aditref3_Line.j0 k a0 a1 a2 a3 (!t209))) else (aditref3_Line.j0 k a0 a1 a2 a3 true))
theorem aditref3_Line.mono_l : ∀ k, (∀ y0 y1 y2 y3 y4, LeO (aditref3_Line.j0 k y0 y1 y2 y3 y4) (aditref3_Line.j0 (k + 1) y0 y1 y2 y3 y4)) ∧ (∀ y0 y1 y2 y3 y4 y5 y6, LeO (aditref3_Line.l0 k y0 y1 y2 y3 y4 y5 y6) (aditref3_Line.l0 (k + 1) y0 y1 y2 y3 y4 y5 y6))
  | 0 => ⟨fun _ _ _ _ _ r h => by simp [aditref3_Line.j0] at h, fun _ _ _ _ _ _ _ r h => by simp [aditref3_Line.l0] at h⟩
  | k + 1 => by
    obtain ⟨ih0, ih1⟩ := aditref3_Line.mono_l k
    refine ⟨?_, ?_⟩
    · intro y0 y1 y2 y3 y4
      unfold aditref3_Line.j0
      repeat' first
      | (with_reducible exact ih0 _ _ _ _ _)
      | (with_reducible exact ih1 _ _ _ _ _ _ _)
      | (with_reducible exact LeO.refl _)
      | (with_reducible exact LeO.none _)
      | (with_reducible refine LeO.ite ?_ ?_)
      | (with_reducible refine LeO.bind ?_ (fun _ => ?_))
      | exact ih0 _ _ _ _ _
      | exact ih1 _ _ _ _ _ _ _
      | exact LeO.none _
      | refine LeO.ite ?_ ?_
      | refine LeO.bind ?_ (fun _ => ?_)
    · intro y0 y1 y2 y3 y4 y5 y6
      unfold aditref3_Line.l0
      repeat' first
      | (with_reducible exact ih0 _ _ _ _ _)
      | (with_reducible exact ih1 _ _ _ _ _ _ _)
      | (with_reducible exact LeO.refl _)
      | (with_reducible exact LeO.none _)
      | (with_reducible refine LeO.ite ?_ ?_)
      | (with_reducible refine LeO.bind ?_ (fun _ => ?_))
      | exact ih0 _ _ _ _ _
      | exact ih1 _ _ _ _ _ _ _
      | exact LeO.none _
      | refine LeO.ite ?_ ?_
      | refine LeO.bind ?_ (fun _ => ?_)
theorem aditref3_Line.mono : ∀ a0 a1 a2 a3 k, LeO (aditref3_Line.f k a0 a1 a2 a3) (aditref3_Line.f (k + 1) a0 a1 a2 a3) := by
  intro a0 a1 a2 a3 k
  obtain ⟨ih0, ih1⟩ := aditref3_Line.mono_l k
  unfold aditref3_Line.f
  repeat' first
      | (with_reducible exact ih0 _ _ _ _ _)
      | (with_reducible exact ih1 _ _ _ _ _ _ _)
      | (with_reducible exact LeO.refl _)
      | (with_reducible exact LeO.none _)
      | (with_reducible refine LeO.ite ?_ ?_)
      | (with_reducible refine LeO.bind ?_ (fun _ => ?_))
      | exact ih0 _ _ _ _ _
      | exact ih1 _ _ _ _ _ _ _
      | exact LeO.none _
      | refine LeO.ite ?_ ?_
      | refine LeO.bind ?_ (fun _ => ?_)
set_option maxHeartbeats 8000000 in
set_option maxRecDepth 100000 in
theorem aditref3_Line.calls (k : Nat) (a0 : Int) (a1 : Int) (a2 : Int) (a3 : Int) (r : List Int) (w : World) (h : aditref3_Line.f k a0 a1 a2 a3 = some r) :
    Calls Try.prog 12 #[.int .i64 a0, .int .i64 a1, .int .i64 a2, .int .i64 a3] w fun e w' => ∃ v0_ : Value, e = .returned (v0_) ∧ Kd.R (Kd.int .i64) 3 w' w.heap.size (fun _ => True) v0_ r ∧ Below w.heap.size w w' := by
  have HB := Aside0.mk (Below.refl w.heap.size w)
  have H : ((aditref3_In.f a0 a1).bind fun t208 => (if t208 = true then ((aditref3_In.f a2 a3).bind fun t209 => (aditref3_Line.j0 k a0 a1 a2 a3 (!t209))) else (aditref3_Line.j0 k a0 a1 a2 a3 true))) = some r := h
  clear h
  have HC5 := Aside0.mk H
  clear H
  go_enter Try.func12, Try.ntmps12
  go_upto_region 1 with (fail)
  go_cut [23] (fun v23 wc => ∃ (kq : Nat) (x23_4 : Bool), v23 = .bool x23_4 ∧ Aside0 (aditref3_Line.j0 kq a0 a1 a2 a3 x23_4 = some r) ∧ Aside0 (kq ≤ k) ∧ Aside0 (Below w.heap.size w wc))
  case first =>
    have H := HC5.out
    clear HC5
    replace H := Option.bind_eq_some_iff.mp H
    obtain ⟨t208, A60, H⟩ := H
    replace H : (if t208 = true then ((aditref3_In.f a2 a3).bind fun t209 => (aditref3_Line.j0 k a0 a1 a2 a3 (!t209))) else (aditref3_Line.j0 k a0 a1 a2 a3 true)) = some r := H
    have A6 := Aside0.mk A60
    clear A60
    by_cases c7 : t208 = true
    · subst c7
      have H1 : ((aditref3_In.f a2 a3).bind fun t209 => (aditref3_Line.j0 k a0 a1 a2 a3 (!t209))) = some r := by rw [if_pos rfl] at H; exact H
      clear H
      have H := H1
      clear H1
      replace H := Option.bind_eq_some_iff.mp H
      obtain ⟨t209, A80, H⟩ := H
      replace H : (aditref3_Line.j0 k a0 a1 a2 a3 (!t209)) = some r := H
      have A8 := Aside0.mk A80
      clear A80
      have H' := Aside0.mk H
      clear H
      go_wp2_with (first | ((with_reducible refine gate_callee (f := 20) rfl ?_); refine goesL_ (some 16) rfl rfl Try.func20 (by kernel_rfl) rfl #[.int .i64 a0, .int .i64 a1] rfl (by (try simp only [List.map_toArray, List.map_cons, List.map_nil]); first | done | rfl | (simp only [List.length_drop, List.length_take]; rfl)) ?_; (with_reducible refine (aditref3_In.calls a0 a1 true _ A6.out).mono ?_); rintro e w' ⟨rfl, ⟨nd, rfl⟩⟩; refine ⟨_, rfl, ?_⟩) | (go_at_call 20; (with_reducible refine (aditref3_In.calls a2 a3 t209 _ A8.out).mono ?_); rintro e w' ⟨rfl, ⟨nd, rfl⟩⟩))
      go_meet
      case rel => exact ⟨_, (!t209), (by first | rfl | (simp; done) | (simp [*]; done)), H', ⟨by first | omega | exact Nat.le_refl _⟩, ⟨by repeat (first | (with_reducible first | exact HB.out | apply below_alloc | apply pw_below_drewN | apply below_drew1) | exact HB.out)⟩⟩
    · replace c7 := Bool.eq_false_iff.mpr c7
      subst c7
      have H1 : (aditref3_Line.j0 k a0 a1 a2 a3 true) = some r := by rw [if_neg (show ¬ (false = true) by decide)] at H; exact H
      clear H
      have H := H1
      clear H1
      have H' := Aside0.mk H
      clear H
      go_wp2_with (first | ((with_reducible refine gate_callee (f := 20) rfl ?_); refine goesL_ (some 16) rfl rfl Try.func20 (by kernel_rfl) rfl #[.int .i64 a0, .int .i64 a1] rfl (by (try simp only [List.map_toArray, List.map_cons, List.map_nil]); first | done | rfl | (simp only [List.length_drop, List.length_take]; rfl)) ?_; (with_reducible refine (aditref3_In.calls a0 a1 false _ A6.out).mono ?_); rintro e w' ⟨rfl, ⟨nd, rfl⟩⟩; refine ⟨_, rfl, ?_⟩))
      go_meet
      case rel => exact ⟨_, (true), (by first | rfl | (simp; done) | (simp [*]; done)), H', ⟨by first | omega | exact Nat.le_refl _⟩, ⟨by repeat (first | (with_reducible first | exact HB.out | apply below_alloc | apply pw_below_drewN | apply below_drew1) | exact HB.out)⟩⟩
  case rest =>
    clear HC5
    try clear c1
    try clear c2
    try clear p2
    try clear c7
    obtain ⟨kq, x23_4, rfl, HA, HJ4, HB⟩ := hcut
    cases kq with
    | zero => exact absurd HA.out (by simp [aditref3_Line.j0])
    | succ kj4 =>
      have H := HA.out
      clear HA
      simp only [aditref3_Line.j0] at H
      by_cases c9 : x23_4 = true
      · subst c9
        have H1 : (some ([] : List Int)) = some r := by rw [if_pos rfl] at H; exact H
        clear H
        have H := H1
        clear H1
        obtain rfl := Option.some.inj H
        go_wp2
        go_ret
        exact ⟨_, by first | rfl | (simp [errW_none, errW_some] <;> rfl) | (simp [*, errW_none, errW_some] <;> rfl), by first | exact Kd.R_nil _ _ _ _ _ | exact Kd.N_nil _ _ _ _ _ | exact Kd.V_nil _ _ _ _ _ | exact Kd.Q_nil _ _ _ _ _ | exact Kd.S_nil _ _ _ _ _, by repeat (first | (with_reducible first | exact HB.out | apply below_alloc | apply pw_below_drewN | apply below_drew1) | exact HB.out)⟩
      · replace c9 := Bool.eq_false_iff.mpr c9
        subst c9
        have H1 : (if (mx (mx (wrap64 (a2 - a0)) (wrap64 (-(wrap64 (a2 - a0))))) (mx (wrap64 (a3 - a1)) (wrap64 (-(wrap64 (a3 - a1)))))) = 0 then (some (([wrap64 ((wrap64 (a1 * 24)) + a0)] : List Int))) else (aditref3_Line.l0 kj4 a0 a1 (wrap64 (a2 - a0)) (wrap64 (a3 - a1)) (mx (mx (wrap64 (a2 - a0)) (wrap64 (-(wrap64 (a2 - a0))))) (mx (wrap64 (a3 - a1)) (wrap64 (-(wrap64 (a3 - a1)))))) ([] : List Int) 0)) = some r := by rw [if_neg (show ¬ (false = true) by decide)] at H; exact H
        clear H
        have H := H1
        clear H1
        obtain ⟨ji10, hji10⟩ : ∃ j_ : Int, (mx (wrap64 (a2 - a0)) (wrap64 (-(wrap64 (a2 - a0))))) = j_ := ⟨_, rfl⟩
        replace H : (if (mx (ji10) (mx (wrap64 (a3 - a1)) (wrap64 (-(wrap64 (a3 - a1)))))) = 0 then (some (([wrap64 ((wrap64 (a1 * 24)) + a0)] : List Int))) else (aditref3_Line.l0 kj4 a0 a1 (wrap64 (a2 - a0)) (wrap64 (a3 - a1)) (mx (ji10) (mx (wrap64 (a3 - a1)) (wrap64 (-(wrap64 (a3 - a1)))))) ([] : List Int) 0)) = some r := by first | (rw [hji10] at H; exact H) | (simp only [hji10] at H ⊢; exact H)
        have hji10_ : (if (wrap64 (a2 - a0)) < (wrap64 (-(wrap64 (a2 - a0)))) then (wrap64 (-(wrap64 (a2 - a0)))) else (wrap64 (a2 - a0))) = ji10 := hji10
        obtain ⟨ji11, hji11⟩ : ∃ j_ : Int, (mx (wrap64 (a3 - a1)) (wrap64 (-(wrap64 (a3 - a1))))) = j_ := ⟨_, rfl⟩
        replace H : (if (mx (ji10) (ji11)) = 0 then (some (([wrap64 ((wrap64 (a1 * 24)) + a0)] : List Int))) else (aditref3_Line.l0 kj4 a0 a1 (wrap64 (a2 - a0)) (wrap64 (a3 - a1)) (mx (ji10) (ji11)) ([] : List Int) 0)) = some r := by first | (rw [hji11] at H; exact H) | (simp only [hji11] at H ⊢; exact H)
        have hji11_ : (if (wrap64 (a3 - a1)) < (wrap64 (-(wrap64 (a3 - a1)))) then (wrap64 (-(wrap64 (a3 - a1)))) else (wrap64 (a3 - a1))) = ji11 := hji11
        obtain ⟨ji12, hji12⟩ : ∃ j_ : Int, (mx (ji10) (ji11)) = j_ := ⟨_, rfl⟩
        replace H : (if (ji12) = 0 then (some (([wrap64 ((wrap64 (a1 * 24)) + a0)] : List Int))) else (aditref3_Line.l0 kj4 a0 a1 (wrap64 (a2 - a0)) (wrap64 (a3 - a1)) ji12 ([] : List Int) 0)) = some r := by first | (rw [hji12] at H; exact H) | (simp only [hji12] at H ⊢; exact H)
        have hji12_ : (if (ji10) < (ji11) then (ji11) else (ji10)) = ji12 := hji12
        by_cases c13 : (ji12) = 0
        · rw [if_pos c13] at H
          have c13b0 : ((ji12) == 0) = true := beq_iff_eq.mpr c13
          have c13b1 : ((ji12) != 0) = false := bne_eq_false_iff_eq.mpr c13
          clear c13
          obtain ⟨y210, hy210⟩ : ∃ y_ : List Int, y_ = (([wrap64 ((wrap64 (a1 * 24)) + a0)] : List Int)) := ⟨_, rfl⟩
          replace H : (some y210) = some r := by first | (rw [hy210]; with_reducible exact H) | (have H2_ := (Option.bind_some _ _).symm.trans H; rw [hy210]; with_reducible exact H2_) | (have H2_ := (Option.bind_some _ _).symm.trans H; with_reducible exact H2_) | with_reducible exact H | (rw [hy210]; exact H) | exact H
          have Ny210 := Aside0.mk hy210
          clear hy210
          obtain rfl := Option.some.inj H
          go_wp2_with (first | ((with_reducible refine gate_dst (N := 45) rfl ?_); refine Kd.R_lit (Kd.int .i64) _ 3 ?hg (N := 45) ?hd (xs := ([wrap64 ((wrap64 (a1 * 24)) + a0)] : List Int)) (inner := [.int .i64 (wrap64 ((wrap64 (a1 * 24)) + a0))]) (ok := fun _ => True) (okp := fun _ => True) ?hr ?hp (fun _ hk => hk) trivial (Below.refl _ _) (Nat.le_refl _) (by simp) ?_; (case hd => rfl); (case hg => rfl); (case hr => first | (go_simp; done) | (go_simp; rfl)); (case hp => exact (Reps.one (show Kd.M (Kd.int .i64) _ _ _ (wrap64 ((wrap64 (a1 * 24)) + a0)) [.int .i64 (wrap64 ((wrap64 (a1 * 24)) + a0))] from rfl) (Reps.none _ _))); intro v211 w14 ho15 hb hg_ hnew_; clear hg_ hnew_; (first | rw [← Ny210.out] at ho15 | (simp only [Int.reduceToNat] at ho15; rw [← Ny210.out] at ho15)); have n0_ := Aside0.mk (Kd.R_lower ho15 (below_size (by repeat (first | (with_reducible first | exact HB.out | apply below_alloc | apply pw_below_drewN | apply below_drew1) | exact HB.out)))); have n1_ := Aside0.mk (below_step (by repeat (first | (with_reducible first | exact HB.out | apply below_alloc | apply pw_below_drewN | apply below_drew1) | exact HB.out)) hb); clear HB; have HO212 := n0_; have HB := n1_; clear n0_ n1_; clear hb ho15))
          go_ret
          exact ⟨_, by first | rfl | (simp [errW_none, errW_some] <;> rfl) | (simp only [← hji10, ← hji11, ← hji12]; first | rfl | (simp [errW_none, errW_some] <;> rfl)) | (simp [*, errW_none, errW_some] <;> rfl), by (with_reducible repeat (first | apply Kd.R_alloc | apply Kd.R_drewN | apply Kd.R_drew)); exact HO212.out, by repeat (first | (with_reducible first | exact HB.out | apply below_alloc | apply pw_below_drewN | apply below_drew1) | exact HB.out)⟩
        · rw [if_neg c13] at H
          have c13b0 : ((ji12) == 0) = false := beq_eq_false_iff_ne.mpr c13
          have c13b1 : ((ji12) != 0) = true := bne_iff_ne.mpr c13
          have H' := Aside0.mk H
          clear H
          go_wp2
          go_loopg [12, 13] kj4 (fun kq v12 v13 w' => ∃ (x12_2 : List Int) (x13_2 : Int), v13 = .int .i64 x13_2 ∧ Aside0 (aditref3_Line.l0 kq a0 a1 (wrap64 (a2 - a0)) (wrap64 (a3 - a1)) ji12 x12_2 x13_2 = some r) ∧ Aside0 (kq ≤ kj4) ∧ Aside0 (Kd.R (Kd.int .i64) 3 w' w.heap.size (fun _ => True) v12 x12_2) ∧ Aside0 (Below w.heap.size w w'))
          case atStart => exact ⟨(([] : List Int)), (0), (by first | rfl | (simp; done) | (simp [*]; done)), H', ⟨Nat.le_refl _⟩, ⟨by first | exact Kd.R_nil _ _ _ _ _ | exact Kd.N_nil _ _ _ _ _ | exact Kd.V_nil _ _ _ _ _ | exact Kd.Q_nil _ _ _ _ _ | exact Kd.S_nil _ _ _ _ _⟩, ⟨by repeat (first | (with_reducible first | exact HB.out | apply below_alloc | apply pw_below_drewN | apply below_drew1) | exact HB.out)⟩⟩
          case round =>
            clear H'
            try clear c1
            try clear c2
            try clear p2
            try clear p6
            try clear c7
            try clear c9
            try clear c12
            try clear c13
            try clear c13b0
            try clear c13b1
            try clear p2
            obtain ⟨x12_2, x13_2, rfl, HA, HK2, HO_12, HB⟩ := hrel
            cases gk with
            | zero => exact absurd HA.out (by simp [aditref3_Line.l0])
            | succ k2 =>
              have H := HA.out
              clear HA
              simp only [aditref3_Line.l0] at H
              by_cases c16 : x13_2 ≤ ji12
              · rw [if_pos c16] at H
                have c16b0 : decide (x13_2 ≤ ji12) = true := decide_eq_true c16
                clear c16
                replace H := Option.bind_eq_some_iff.mp H
                obtain ⟨t213, A170, H⟩ := H
                replace H : ((aditref3_off.f (wrap64 (x13_2 * (wrap64 (a2 - a0)))) ji12).bind fun t214 => (if x12_2.length < 17592186044416 then (aditref3_Line.l0 k2 a0 a1 (wrap64 (a2 - a0)) (wrap64 (a3 - a1)) ji12 (x12_2 ++ [wrap64 ((wrap64 ((wrap64 ((wrap64 (a1 + t213)) * 24)) + a0)) + t214)]) (wrap64 (x13_2 + 1))) else (none))) = some r := H
                have A17 := Aside0.mk A170
                clear A170
                replace H := Option.bind_eq_some_iff.mp H
                obtain ⟨t214, A180, H⟩ := H
                replace H : (if x12_2.length < 17592186044416 then (aditref3_Line.l0 k2 a0 a1 (wrap64 (a2 - a0)) (wrap64 (a3 - a1)) ji12 (x12_2 ++ [wrap64 ((wrap64 ((wrap64 ((wrap64 (a1 + t213)) * 24)) + a0)) + t214)]) (wrap64 (x13_2 + 1))) else (none)) = some r := H
                have A18 := Aside0.mk A180
                clear A180
                by_cases c19 : x12_2.length < 17592186044416
                · rw [if_pos c19] at H
                  have LMc19 := Aside0.mk c19
                  clear c19
                  obtain ⟨y215, hy215⟩ : ∃ y_ : List Int, y_ = (x12_2 ++ [wrap64 ((wrap64 ((wrap64 ((wrap64 (a1 + t213)) * 24)) + a0)) + t214)]) := ⟨_, rfl⟩
                  replace H : (aditref3_Line.l0 k2 a0 a1 (wrap64 (a2 - a0)) (wrap64 (a3 - a1)) ji12 y215 (wrap64 (x13_2 + 1))) = some r := by first | (rw [hy215]; with_reducible exact H) | (have H2_ := (Option.bind_some _ _).symm.trans H; rw [hy215]; with_reducible exact H2_) | (have H2_ := (Option.bind_some _ _).symm.trans H; with_reducible exact H2_) | with_reducible exact H | (rw [hy215]; exact H) | exact H
                  have Ny215 := Aside0.mk hy215
                  clear hy215
                  have H' := Aside0.mk H
                  clear H
                  go_wp2_with (first | ((with_reducible refine gate_callee (f := 24) rfl ?_); refine goesL_ (some 57) rfl rfl Try.func24 (by kernel_rfl) rfl #[.int .i64 (wrap64 (x13_2 * (wrap64 (a3 - a1)))), .int .i64 ji12] rfl (by (try simp only [List.map_toArray, List.map_cons, List.map_nil]); first | done | (simp only [hji12]; rfl) | rfl | (simp only [List.length_drop, List.length_take]; rfl)) ?_; (with_reducible refine (aditref3_off.calls (wrap64 (x13_2 * (wrap64 (a3 - a1)))) ji12 t213 _ A17.out).mono ?_); rintro e w' ⟨rfl, ⟨nd, rfl⟩⟩; refine ⟨_, rfl, ?_⟩) | ((with_reducible refine gate_callee (f := 24) rfl ?_); refine goesL_ (some 66) rfl rfl Try.func24 (by kernel_rfl) rfl #[.int .i64 (wrap64 (x13_2 * (wrap64 (a2 - a0)))), .int .i64 ji12] rfl (by (try simp only [List.map_toArray, List.map_cons, List.map_nil]); first | done | (simp only [hji12]; rfl) | rfl | (simp only [List.length_drop, List.length_take]; rfl)) ?_; (with_reducible refine (aditref3_off.calls (wrap64 (x13_2 * (wrap64 (a2 - a0)))) ji12 t214 _ A18.out).mono ?_); rintro e w' ⟨rfl, ⟨nd, rfl⟩⟩; refine ⟨_, rfl, ?_⟩) | ((with_reducible refine gate_builtin (b := .append) (xs := #[.tmp 51, .tmp 68]) rfl ?_); at_builtin; refine Kd.R_append (Kd.int .i64) (w0 := w) w.heap.size rfl (.tmp 51) (.tmp 68) 24 3 (.int .i64 0) 8 rfl Try.underlying24 info3 rfl (by decide) (by omega) u12 x12_2 (wrap64 ((wrap64 ((wrap64 ((wrap64 (a1 + t213)) * 24)) + a0)) + t214)) [.int .i64 (wrap64 ((wrap64 ((wrap64 ((wrap64 (a1 + t213)) * 24)) + a0)) + t214))] (fun _ => True) (fun _ => False) rfl rfl ?aP (fun _ hk => hk.elim) ?aF ?aO ?aB ?aS ?aL ?_; (case aP => exact rfl); (case aB => exact (by repeat (first | (with_reducible first | exact HB.out | apply below_alloc | apply pw_below_drewN | apply below_drew1) | exact HB.out))); (case aF => exact (fun _ _ => trivial)); (case aO => exact (by (with_reducible repeat (first | apply Kd.R_alloc | apply Kd.R_drewN | apply Kd.R_drew)); exact HO_12.out)); (case aS => exact (below_size (by repeat (first | (with_reducible first | exact HB.out | apply below_alloc | apply pw_below_drewN | apply below_drew1) | exact HB.out)))); (case aL => have := LMc19.out; omega); intro v216 w20 ho hb hg hat; rw [← Ny215.out] at ho; have n0_ := Aside0.mk (hb); have n1_ := Aside0.mk (ho); clear HB; clear HO_12; have HB := n0_; have HO217 := n1_; clear n0_ n1_; clear ho hb hg hat))
                  go_roundg k2
                  case measure => have := HJ4.out; have := HK2.out; omega
                  case rel => exact ⟨(y215), (wrap64 (x13_2 + 1)), (by first | rfl | (simp; done) | (simp [*]; done)), H', ⟨by have := HJ4.out; have := HK2.out; omega⟩, ⟨by (with_reducible repeat (first | apply Kd.R_alloc | apply Kd.R_drewN | apply Kd.R_drew)); exact HO217.out⟩, ⟨by repeat (first | (with_reducible first | exact HB.out | apply below_alloc | apply pw_below_drewN | apply below_drew1) | exact HB.out)⟩⟩
                · rw [if_neg c19] at H
                  exact absurd H (by simp)
              · rw [if_neg c16] at H
                have c16b0 : decide (x13_2 ≤ ji12) = false := decide_eq_false c16
                clear c16
                obtain rfl := Option.some.inj H
                go_wp2
                go_ret
                exact ⟨_, by first | rfl | (simp [errW_none, errW_some] <;> rfl) | (simp only [← hji10, ← hji11, ← hji12]; first | rfl | (simp [errW_none, errW_some] <;> rfl)) | (simp [*, errW_none, errW_some] <;> rfl), by (with_reducible repeat (first | apply Kd.R_alloc | apply Kd.R_drewN | apply Kd.R_drew)); exact HO_12.out, by repeat (first | (with_reducible first | exact HB.out | apply below_alloc | apply pw_below_drewN | apply below_drew1) | exact HB.out)⟩

end Go.Proofs.Ytjpcmpeigoikkaa.Q

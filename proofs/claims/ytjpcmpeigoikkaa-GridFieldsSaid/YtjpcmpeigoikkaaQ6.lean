/- By a program of this session's own, over the translation and the contracts by hand: each function's answers as a Lean function, and that the code comes to them. -/
import Derived.Test.YtjpcmpeigoikkaaQ0
import Derived.Test.YtjpcmpeigoikkaaQ4
import Derived.Test.YtjpcmpeigoikkaaQ5
namespace Go.Proofs.Ytjpcmpeigoikkaa.Q
open Go.RowKit Go.Proofs.YtjpcmpeigoikkaaW.PrintWords Go.Proofs.YtjpcmpeigoikkaaW.PrintLast Go.Proofs.YtjpcmpeigoikkaaW.PrintMore
attribute [local go_sem] max2_int min2_int max_two min_two max_three min_three max_four min_four jump_ret jump_exit jump_normal jump_panic   -- for this text's walks alone
set_option linter.unusedVariables false
set_option linter.unusedSimpArgs false

/-! ### grid_Field: function 17 -/
mutual
def grid_Field.l0 : Nat → List Int → List Bool → List Int → List Int → Int → Int → Option (List Int)
  | 0, _, _, _, _, _, _ => none
  | k + 1, x0, x1, x2, x7, x20, x21 => if x21 < x20 then (if 0 ≤ x21 then (if x21 < (x7.length : Int) then (grid_Field.l0 k x0 x1 x2 (x7.set (x21 : Int).toNat (-1)) x20 (wrap64 (x21 + 1))) else (none)) else (none)) else (grid_Field.l1 k x0 x1 x7 ([] : List Int) x2 (x2.length : Int) 0)
def grid_Field.l1 : Nat → List Int → List Bool → List Int → List Int → List Int → Int → Int → Option (List Int)
  | 0, _, _, _, _, _, _, _ => none
  | k + 1, x0, x1, x7, x9, x28, x29, x30 => if x30 < x29 then (if 0 ≤ x30 then (if x30 < (x28.length : Int) then (if (rd x28 x30) ≥ 0 then (if (rd x28 x30) < 384 then (if 0 ≤ (rd x28 x30) then (if (rd x28 x30) < (x7.length : Int) then (if (rd x7 (rd x28 x30)) < 0 then ((grid_kind.f x0 (rd x28 x30)).bind fun t138 => ((grid_Walk.f t138).bind fun t139 => (if t139 = true then (if x9.length < 17592186044416 then (grid_Field.l1 k x0 x1 (x7.set ((rd x28 x30) : Int).toNat 0) (x9 ++ [rd x28 x30]) x28 x29 (wrap64 (x30 + 1))) else (none)) else (grid_Field.l1 k x0 x1 x7 x9 x28 x29 (wrap64 (x30 + 1)))))) else (grid_Field.l1 k x0 x1 x7 x9 x28 x29 (wrap64 (x30 + 1)))) else (none)) else (none)) else (grid_Field.l1 k x0 x1 x7 x9 x28 x29 (wrap64 (x30 + 1)))) else (grid_Field.l1 k x0 x1 x7 x9 x28 x29 (wrap64 (x30 + 1)))) else (none)) else (none)) else (grid_Field.l2 k x0 x1 x7 x9 0)
def grid_Field.l2 : Nat → List Int → List Bool → List Int → List Int → Int → Option (List Int)
  | 0, _, _, _, _, _ => none
  | k + 1, x0, x1, x7, x9, x13 => grid_Field.l3 k x0 x1 x7 ([] : List Int) (wrap64 (x13 + 1)) x9 (x9.length : Int) 0
def grid_Field.l3 : Nat → List Int → List Bool → List Int → List Int → Int → List Int → Int → Int → Option (List Int)
  | 0, _, _, _, _, _, _, _, _ => none
  | k + 1, x0, x1, x7, x10, x13, x63, x64, x65 => if x65 < x64 then (if 0 ≤ x65 then (if x65 < (x63.length : Int) then ((grid_beside.f (rd x63 x65)).bind fun bt145 => (grid_Field.l4 k x0 x1 x7 x10 x13 x63 x64 x65 0 bt145.1 bt145.2.1 bt145.2.2.1 bt145.2.2.2)) else (none)) else (none)) else (if (x10.length : Int) > 0 then (grid_Field.l2 k x0 x1 x7 x10 x13) else (some x7))
def grid_Field.l4 : Nat → List Int → List Bool → List Int → List Int → Int → List Int → Int → Int → Int → Int → Int → Int → Int → Option (List Int)
  | 0, _, _, _, _, _, _, _, _, _, _, _, _, _ => none
  | k + 1, x0, x1, x7, x10, x13, x63, x64, x65, x71, x1007000, x1007001, x1007002, x1007003 => if x71 < 4 then (if 0 ≤ x71 then (if (rd [x1007000, x1007001, x1007002, x1007003] x71) < 0 then (grid_Field.l4 k x0 x1 x7 x10 x13 x63 x64 x65 (wrap64 (x71 + 1)) x1007000 x1007001 x1007002 x1007003) else (if 0 ≤ (rd [x1007000, x1007001, x1007002, x1007003] x71) then (if (rd [x1007000, x1007001, x1007002, x1007003] x71) < (x7.length : Int) then (if (rd x7 (rd [x1007000, x1007001, x1007002, x1007003] x71)) ≥ 0 then (grid_Field.l4 k x0 x1 x7 x10 x13 x63 x64 x65 (wrap64 (x71 + 1)) x1007000 x1007001 x1007002 x1007003) else ((grid_kind.f x0 (rd [x1007000, x1007001, x1007002, x1007003] x71)).bind fun t150 => ((grid_Walk.f t150).bind fun t151 => (if t151 = true then (if (rd [x1007000, x1007001, x1007002, x1007003] x71) < (x1.length : Int) then (if rdOf false x1 (rd [x1007000, x1007001, x1007002, x1007003] x71) = true then (grid_Field.l4 k x0 x1 x7 x10 x13 x63 x64 x65 (wrap64 (x71 + 1)) x1007000 x1007001 x1007002 x1007003) else (if x10.length < 17592186044416 then (grid_Field.l4 k x0 x1 (x7.set ((rd [x1007000, x1007001, x1007002, x1007003] x71) : Int).toNat x13) (x10 ++ [rd [x1007000, x1007001, x1007002, x1007003] x71]) x13 x63 x64 x65 (wrap64 (x71 + 1)) x1007000 x1007001 x1007002 x1007003) else (none))) else (if x10.length < 17592186044416 then (grid_Field.l4 k x0 x1 (x7.set ((rd [x1007000, x1007001, x1007002, x1007003] x71) : Int).toNat x13) (x10 ++ [rd [x1007000, x1007001, x1007002, x1007003] x71]) x13 x63 x64 x65 (wrap64 (x71 + 1)) x1007000 x1007001 x1007002 x1007003) else (none))) else (grid_Field.l4 k x0 x1 x7 x10 x13 x63 x64 x65 (wrap64 (x71 + 1)) x1007000 x1007001 x1007002 x1007003))))) else (none)) else (none))) else (none)) else (grid_Field.l3 k x0 x1 x7 x10 x13 x63 x64 (wrap64 (x65 + 1)))
end
def grid_Field.f (k : Nat) (l0 : List Int) (l1 : List Bool) (l2 : List Int) : Option (List Int) := if 384 ≤ 35184372088832 then ((some (List.replicate 384 0 : List Int)).bind fun y132 => (grid_Field.l0 k l0 l1 l2 y132 (y132.length : Int) 0)) else (none)
theorem grid_Field.mono_l : ∀ k, (∀ y0 y1 y2 y3 y4 y5, LeO (grid_Field.l0 k y0 y1 y2 y3 y4 y5) (grid_Field.l0 (k + 1) y0 y1 y2 y3 y4 y5)) ∧ (∀ y0 y1 y2 y3 y4 y5 y6, LeO (grid_Field.l1 k y0 y1 y2 y3 y4 y5 y6) (grid_Field.l1 (k + 1) y0 y1 y2 y3 y4 y5 y6)) ∧ (∀ y0 y1 y2 y3 y4, LeO (grid_Field.l2 k y0 y1 y2 y3 y4) (grid_Field.l2 (k + 1) y0 y1 y2 y3 y4)) ∧ (∀ y0 y1 y2 y3 y4 y5 y6 y7, LeO (grid_Field.l3 k y0 y1 y2 y3 y4 y5 y6 y7) (grid_Field.l3 (k + 1) y0 y1 y2 y3 y4 y5 y6 y7)) ∧ (∀ y0 y1 y2 y3 y4 y5 y6 y7 y8 y9 y10 y11 y12, LeO (grid_Field.l4 k y0 y1 y2 y3 y4 y5 y6 y7 y8 y9 y10 y11 y12) (grid_Field.l4 (k + 1) y0 y1 y2 y3 y4 y5 y6 y7 y8 y9 y10 y11 y12))
  | 0 => ⟨fun _ _ _ _ _ _ r h => by simp [grid_Field.l0] at h, fun _ _ _ _ _ _ _ r h => by simp [grid_Field.l1] at h, fun _ _ _ _ _ r h => by simp [grid_Field.l2] at h, fun _ _ _ _ _ _ _ _ r h => by simp [grid_Field.l3] at h, fun _ _ _ _ _ _ _ _ _ _ _ _ _ r h => by simp [grid_Field.l4] at h⟩
  | k + 1 => by
    obtain ⟨ih0, ih1, ih2, ih3, ih4⟩ := grid_Field.mono_l k
    refine ⟨?_, ?_, ?_, ?_, ?_⟩
    · intro y0 y1 y2 y3 y4 y5
      unfold grid_Field.l0
      repeat' first
      | (with_reducible exact ih0 _ _ _ _ _ _)
      | (with_reducible exact ih1 _ _ _ _ _ _ _)
      | (with_reducible exact ih2 _ _ _ _ _)
      | (with_reducible exact ih3 _ _ _ _ _ _ _ _)
      | (with_reducible exact ih4 _ _ _ _ _ _ _ _ _ _ _ _ _)
      | (with_reducible exact LeO.refl _)
      | (with_reducible exact LeO.none _)
      | (with_reducible refine LeO.ite ?_ ?_)
      | (with_reducible refine LeO.bind ?_ (fun _ => ?_))
      | exact ih0 _ _ _ _ _ _
      | exact ih1 _ _ _ _ _ _ _
      | exact ih2 _ _ _ _ _
      | exact ih3 _ _ _ _ _ _ _ _
      | exact ih4 _ _ _ _ _ _ _ _ _ _ _ _ _
      | exact LeO.none _
      | refine LeO.ite ?_ ?_
      | refine LeO.bind ?_ (fun _ => ?_)
    · intro y0 y1 y2 y3 y4 y5 y6
      unfold grid_Field.l1
      repeat' first
      | (with_reducible exact ih0 _ _ _ _ _ _)
      | (with_reducible exact ih1 _ _ _ _ _ _ _)
      | (with_reducible exact ih2 _ _ _ _ _)
      | (with_reducible exact ih3 _ _ _ _ _ _ _ _)
      | (with_reducible exact ih4 _ _ _ _ _ _ _ _ _ _ _ _ _)
      | (with_reducible exact LeO.refl _)
      | (with_reducible exact LeO.none _)
      | (with_reducible refine LeO.ite ?_ ?_)
      | (with_reducible refine LeO.bind ?_ (fun _ => ?_))
      | exact ih0 _ _ _ _ _ _
      | exact ih1 _ _ _ _ _ _ _
      | exact ih2 _ _ _ _ _
      | exact ih3 _ _ _ _ _ _ _ _
      | exact ih4 _ _ _ _ _ _ _ _ _ _ _ _ _
      | exact LeO.none _
      | refine LeO.ite ?_ ?_
      | refine LeO.bind ?_ (fun _ => ?_)
    · intro y0 y1 y2 y3 y4
      unfold grid_Field.l2
      repeat' first
      | (with_reducible exact ih0 _ _ _ _ _ _)
      | (with_reducible exact ih1 _ _ _ _ _ _ _)
      | (with_reducible exact ih2 _ _ _ _ _)
      | (with_reducible exact ih3 _ _ _ _ _ _ _ _)
      | (with_reducible exact ih4 _ _ _ _ _ _ _ _ _ _ _ _ _)
      | (with_reducible exact LeO.refl _)
      | (with_reducible exact LeO.none _)
      | (with_reducible refine LeO.ite ?_ ?_)
      | (with_reducible refine LeO.bind ?_ (fun _ => ?_))
      | exact ih0 _ _ _ _ _ _
      | exact ih1 _ _ _ _ _ _ _
      | exact ih2 _ _ _ _ _
      | exact ih3 _ _ _ _ _ _ _ _
      | exact ih4 _ _ _ _ _ _ _ _ _ _ _ _ _
      | exact LeO.none _
      | refine LeO.ite ?_ ?_
      | refine LeO.bind ?_ (fun _ => ?_)
    · intro y0 y1 y2 y3 y4 y5 y6 y7
      unfold grid_Field.l3
      repeat' first
      | (with_reducible exact ih0 _ _ _ _ _ _)
      | (with_reducible exact ih1 _ _ _ _ _ _ _)
      | (with_reducible exact ih2 _ _ _ _ _)
      | (with_reducible exact ih3 _ _ _ _ _ _ _ _)
      | (with_reducible exact ih4 _ _ _ _ _ _ _ _ _ _ _ _ _)
      | (with_reducible exact LeO.refl _)
      | (with_reducible exact LeO.none _)
      | (with_reducible refine LeO.ite ?_ ?_)
      | (with_reducible refine LeO.bind ?_ (fun _ => ?_))
      | exact ih0 _ _ _ _ _ _
      | exact ih1 _ _ _ _ _ _ _
      | exact ih2 _ _ _ _ _
      | exact ih3 _ _ _ _ _ _ _ _
      | exact ih4 _ _ _ _ _ _ _ _ _ _ _ _ _
      | exact LeO.none _
      | refine LeO.ite ?_ ?_
      | refine LeO.bind ?_ (fun _ => ?_)
    · intro y0 y1 y2 y3 y4 y5 y6 y7 y8 y9 y10 y11 y12
      unfold grid_Field.l4
      repeat' first
      | (with_reducible exact ih0 _ _ _ _ _ _)
      | (with_reducible exact ih1 _ _ _ _ _ _ _)
      | (with_reducible exact ih2 _ _ _ _ _)
      | (with_reducible exact ih3 _ _ _ _ _ _ _ _)
      | (with_reducible exact ih4 _ _ _ _ _ _ _ _ _ _ _ _ _)
      | (with_reducible exact LeO.refl _)
      | (with_reducible exact LeO.none _)
      | (with_reducible refine LeO.ite ?_ ?_)
      | (with_reducible refine LeO.bind ?_ (fun _ => ?_))
      | exact ih0 _ _ _ _ _ _
      | exact ih1 _ _ _ _ _ _ _
      | exact ih2 _ _ _ _ _
      | exact ih3 _ _ _ _ _ _ _ _
      | exact ih4 _ _ _ _ _ _ _ _ _ _ _ _ _
      | exact LeO.none _
      | refine LeO.ite ?_ ?_
      | refine LeO.bind ?_ (fun _ => ?_)
theorem grid_Field.mono : ∀ a0 a1 a2 k, LeO (grid_Field.f k a0 a1 a2) (grid_Field.f (k + 1) a0 a1 a2) := by
  intro a0 a1 a2 k
  obtain ⟨ih0, ih1, ih2, ih3, ih4⟩ := grid_Field.mono_l k
  unfold grid_Field.f
  repeat' first
      | (with_reducible exact ih0 _ _ _ _ _ _)
      | (with_reducible exact ih1 _ _ _ _ _ _ _)
      | (with_reducible exact ih2 _ _ _ _ _)
      | (with_reducible exact ih3 _ _ _ _ _ _ _ _)
      | (with_reducible exact ih4 _ _ _ _ _ _ _ _ _ _ _ _ _)
      | (with_reducible exact LeO.refl _)
      | (with_reducible exact LeO.none _)
      | (with_reducible refine LeO.ite ?_ ?_)
      | (with_reducible refine LeO.bind ?_ (fun _ => ?_))
      | exact ih0 _ _ _ _ _ _
      | exact ih1 _ _ _ _ _ _ _
      | exact ih2 _ _ _ _ _
      | exact ih3 _ _ _ _ _ _ _ _
      | exact ih4 _ _ _ _ _ _ _ _ _ _ _ _ _
      | exact LeO.none _
      | refine LeO.ite ?_ ?_
      | refine LeO.bind ?_ (fun _ => ?_)
set_option maxHeartbeats 8000000 in
set_option maxRecDepth 100000 in
theorem grid_Field.calls (k : Nat) (A0 : Option Addr) (c0 : Nat) (l0 : List Int) (A1 : Option Addr) (c1 : Nat) (l1 : List Bool) (A2 : Option Addr) (c2 : Nat) (l2 : List Int) (r : List Int) (w : World) (hr0 : Kd.C (Kd.int .u8) w A0 l0.length l0) (hc0 : l0.length ≤ c0) (hr1 : Kd.C Kd.bool w A1 l1.length l1) (hc1 : l1.length ≤ c1) (hr2 : Kd.C (Kd.int .i64) w A2 l2.length l2) (hc2 : l2.length ≤ c2) (h : grid_Field.f k l0 l1 l2 = some r) :
    Calls Try.prog 17 #[.slice A0 l0.length c0, .slice A1 l1.length c1, .slice A2 l2.length c2] w fun e w' => ∃ v0_ : Value, e = .returned (v0_) ∧ Kd.R (Kd.int .i64) 3 w' w.heap.size (fun _ => True) v0_ r ∧ Below w.heap.size w w' := by
  have HR0 := Aside0.mk hr0
  have HC0 := Aside0.mk hc0
  clear hr0 hc0
  have HR1 := Aside0.mk hr1
  have HC1 := Aside0.mk hc1
  clear hr1 hc1
  have HR2 := Aside0.mk hr2
  have HC2 := Aside0.mk hc2
  clear hr2 hc2
  have HB := Aside0.mk (Below.refl w.heap.size w)
  have H : (if 384 ≤ 35184372088832 then ((some (List.replicate 384 0 : List Int)).bind fun y132 => (grid_Field.l0 k l0 l1 l2 y132 (y132.length : Int) 0)) else (none)) = some r := h
  clear h
  by_cases c4 : 384 ≤ 35184372088832
  · rw [if_pos c4] at H
    have c4b0 := eq_true c4
    have c4b1 : decide (384 ≤ 35184372088832) = true := decide_eq_true c4
    clear c4
    obtain ⟨y132, hy132⟩ : ∃ y_ : List Int, y_ = (List.replicate 384 0) := ⟨_, rfl⟩
    replace H : (grid_Field.l0 k l0 l1 l2 y132 (y132.length : Int) 0) = some r := by first | (rw [hy132]; with_reducible exact H) | (have H2_ := (Option.bind_some _ _).symm.trans H; rw [hy132]; with_reducible exact H2_) | (have H2_ := (Option.bind_some _ _).symm.trans H; with_reducible exact H2_) | with_reducible exact H | (rw [hy132]; exact H) | exact H
    have Ny132 := Aside0.mk hy132
    clear hy132
    have H' := Aside0.mk H
    clear H
    go_enter Try.func17, Try.ntmps17
    go_wp2
    apply wp_scope_late 0
    · exact rfl

    go_wp2_with (first | ((with_reducible refine gate_dst (N := 18) rfl ?_); (try (refine gate_guard (by rfl) ?_; dsimp only)); refine Kd.R_make (Kd.int .i64) _ 3 rfl (N := 18) rfl 24 _ _ rfl 384 rfl rfl Try.underlying24 (.int .i64 0) 8 info3 rfl (by decide) (by omega) 0 (ok := fun _ => True) (okp := fun _ => True) rfl (fun _ hk => hk) trivial (by omega) (by omega) (Below.refl _ _) (Nat.le_refl _) ?_; intro v133 w5 ho6 hb hg_ hnew_; clear hg_ hnew_; (first | rw [← Ny132.out] at ho6 | (simp only [Int.reduceToNat] at ho6; rw [← Ny132.out] at ho6)); have n0_ := Aside0.mk (Kd.R_lower ho6 (below_size (by repeat (first | (with_reducible first | exact HB.out | apply below_alloc | apply pw_below_drewN | apply below_drew1) | exact HB.out)))); have n1_ := Aside0.mk (below_step (by repeat (first | (with_reducible first | exact HB.out | apply below_alloc | apply pw_below_drewN | apply below_drew1) | exact HB.out)) hb); clear HB; have HO134 := n0_; have HB := n1_; clear n0_ n1_; clear hb ho6; obtain ⟨Ao7, co7, eo7⟩ := Kd.R_slice HO134.out; subst eo7))
    go_loopg [21] k (fun kq v21 w' => ∃ (x7_1 : List Int) (x21_1 : Int), v21 = .int .i64 x21_1 ∧ Aside0 (grid_Field.l0 kq l0 l1 l2 x7_1 (y132.length : Int) x21_1 = some r) ∧ Aside0 (kq ≤ k) ∧ Aside0 (Kd.R (Kd.int .i64) 3 w' w.heap.size (fun _ => True) (.slice Ao7 y132.length co7) x7_1) ∧ Aside0 (Below w.heap.size w w'))
    case atStart => exact ⟨(y132), (0), (by first | rfl | (simp; done) | (simp [*]; done)), H', ⟨Nat.le_refl _⟩, ⟨by (with_reducible repeat (first | apply Kd.R_alloc | apply Kd.R_drewN | apply Kd.R_drew)); exact HO134.out⟩, ⟨by repeat (first | (with_reducible first | exact HB.out | apply below_alloc | apply pw_below_drewN | apply below_drew1) | exact HB.out)⟩⟩
    case round =>
      clear H'
      try clear c1
      try clear c2
      try clear p2
      try clear c4
      try clear c4b0
      try clear c4b1
      obtain ⟨x7_1, x21_1, rfl, HA, HK1, HO_7, HB⟩ := hrel
      have hl7_1 := (Kd.R_reads' HO_7.out).1
      rw [hl7_1] at HO_7
      (try simp only [hl7_1])
      cases gk with
      | zero => exact absurd HA.out (by simp [grid_Field.l0])
      | succ k1 =>
        have H := HA.out
        clear HA
        simp only [grid_Field.l0] at H
        by_cases c8 : x21_1 < (y132.length : Int)
        · rw [if_pos c8] at H
          have c8b0 : decide (x21_1 < (y132.length : Int)) = true := decide_eq_true c8
          clear c8
          by_cases c9 : 0 ≤ x21_1
          · rw [if_pos c9] at H
            have c9b0 : decide (0 ≤ x21_1) = true := decide_eq_true c9
            clear c9
            by_cases c10 : x21_1 < (x7_1.length : Int)
            · rw [if_pos c10] at H
              have c10b0 : decide (x21_1 < (x7_1.length : Int)) = true := decide_eq_true c10
              clear c10
              obtain ⟨y135, hy135⟩ : ∃ y_ : List Int, y_ = (x7_1.set (x21_1 : Int).toNat (-1)) := ⟨_, rfl⟩
              replace H : (grid_Field.l0 k1 l0 l1 l2 y135 (y132.length : Int) (wrap64 (x21_1 + 1))) = some r := by first | (rw [hy135]; with_reducible exact H) | (have H2_ := (Option.bind_some _ _).symm.trans H; rw [hy135]; with_reducible exact H2_) | (have H2_ := (Option.bind_some _ _).symm.trans H; with_reducible exact H2_) | with_reducible exact H | (rw [hy135]; exact H) | exact H
              have Ny135 := Aside0.mk hy135
              clear hy135
              have H' := Aside0.mk H
              clear H
              have p11 : 0 ≤ (x21_1 : Int) := of_decide_eq_true (by first | (with_reducible assumption) | assumption)
              have q11 : (x21_1 : Int) < ((x7_1.length : Int) : Int) := of_decide_eq_true (by first | (with_reducible assumption) | assumption)
              obtain ⟨go11, co11, eo11, gb11, gl11, cl11, HG11⟩ := Kd.R_form HO_7.out (by omega)
              (first | cases eo11 | (injection eo11 with ea_ en_ ec_; (first | subst ea_ | (injection ea_ with ea_; subst ea_)); subst ec_; clear en_))
              have GB11 := Aside0.mk gb11
              have GG11 := Aside0.mk HG11
              clear gb11 gl11 HG11
              obtain ⟨hx11_0, hf11_0⟩ := Kd.R_celln 0 HO_7.out (x21_1 : Int) p11 q11
              replace p11 := eq_true p11
              replace q11 := eq_true q11
              have HP12 := Kd.R_putg HO_7.out (x21_1 : Int) (-1)
              go_wp2_with (first | ((with_reducible refine gate_store (t := 3) (p := 26) rfl ?_); refine store_event (t := 3) (p := 26) (v := ?vo_w13) (w1 := (wr.setCell ⟨go11, (x21_1 : Int).toNat, none⟩ (.int .i64 (-1)))) ?hg ?ho ?hn ?hr ?_; (case ho => rfl); (case hg => rfl); (case hn => rfl); (case hr => first | (go_simp; done) | (go_simp; rfl)); intro w13 hw; have hg : wr.grownBy w13 (some go11) := (by rw [hw]; exact HP12.2); have hp_ : Kd.R (Kd.int .i64) 3 w13 w.heap.size (fun _ => True) (.slice (some ⟨go11, 0, none⟩) x7_1.length co7) y135 := (by rw [hw, Ny135.out]; exact HP12.1); clear HP12; have n0_ := Aside0.mk (hp_); have n1_ := Aside0.mk ((by rw [hw]; exact below_set (HB.out) GB11.out : Below w.heap.size w w13)); clear HO_7; clear HB; have HO_7 := n0_; have HB := n1_; clear n0_ n1_; clear hg hw hp_))
              (try simp only [← hl7_1])
              go_roundg k1
              case measure => have := HK1.out; omega
              case rel => exact ⟨(y135), (wrap64 (x21_1 + 1)), (by first | rfl | (simp; done) | (simp [*]; done)), H', ⟨by have := HK1.out; omega⟩, ⟨by (try simp only [hl7_1]); (with_reducible repeat (first | apply Kd.R_alloc | apply Kd.R_drewN | apply Kd.R_drew)); exact HO_7.out⟩, ⟨by repeat (first | (with_reducible first | exact HB.out | apply below_alloc | apply pw_below_drewN | apply below_drew1) | exact HB.out)⟩⟩
            · rw [if_neg c10] at H
              exact absurd H (by simp)
          · rw [if_neg c9] at H
            exact absurd H (by simp)
        · rw [if_neg c8] at H
          have c8b0 : decide (x21_1 < (y132.length : Int)) = false := decide_eq_false c8
          (try simp only [hl7_1] at c8b0)
          clear c8
          have H' := Aside0.mk H
          clear H
          go_wp2
          go_loopg [9, 30] k1 (fun kq v9 v30 w' => ∃ (x7_2 : List Int) (x9_2 : List Int) (x30_2 : Int), v30 = .int .i64 x30_2 ∧ Aside0 (grid_Field.l1 kq l0 l1 x7_2 x9_2 l2 (l2.length : Int) x30_2 = some r) ∧ Aside0 (kq ≤ k1) ∧ Aside0 (Kd.R (Kd.int .i64) 3 w' w.heap.size (fun k_ => some k_ ≠ (v9 : Value).ownBlock) (.slice Ao7 x7_1.length co7) x7_2) ∧ Aside0 (Kd.R (Kd.int .i64) 3 w' w.heap.size (fun k_ => some k_ ≠ ((.slice Ao7 x7_1.length co7) : Value).ownBlock) v9 x9_2) ∧ Aside0 (Below w.heap.size w w'))
          case atStart => exact ⟨(x7_1), (([] : List Int)), (0), (by first | rfl | (simp; done) | (simp [*]; done)), H', ⟨Nat.le_refl _⟩, ⟨by (try simp only [hl7_1]); (with_reducible repeat (first | apply Kd.R_alloc | apply Kd.R_drewN | apply Kd.R_drew)); exact Kd.R_mono HO_7.out (fun _ hk => (by simp [Value.ownBlock]))⟩, ⟨by (try simp only [hl7_1]); first | exact Kd.R_nil _ _ _ _ _ | exact Kd.N_nil _ _ _ _ _ | exact Kd.V_nil _ _ _ _ _ | exact Kd.Q_nil _ _ _ _ _ | exact Kd.S_nil _ _ _ _ _⟩, ⟨by repeat (first | (with_reducible first | exact HB.out | apply below_alloc | apply pw_below_drewN | apply below_drew1) | exact HB.out)⟩⟩
          case round =>
            clear H'
            try clear c1
            try clear p1
            try clear q1
            try clear hx1
            try clear c2
            try clear p2
            try clear c4
            try clear c4b0
            try clear c4b1
            try clear p6
            try clear c8
            try clear c8b0
            try clear c9
            try clear c9b0
            try clear c10
            try clear c10b0
            try clear p11
            try clear q11
            try clear hx11
            try clear hf11
            try clear hx11_0
            try clear p11
            try clear p2
            try clear q11
            obtain ⟨x7_2, x9_2, x30_2, rfl, HA, HK2, HO_7, HO_9, HB⟩ := hrel
            have hl7_2 := (Kd.R_reads' HO_7.out).1
            rw [hl7_2] at HO_7
            (try simp only [hl7_2])
            (try simp only [hl7_2] at HO_9)
            cases gk with
            | zero => exact absurd HA.out (by simp [grid_Field.l1])
            | succ k2 =>
              have H := HA.out
              clear HA
              simp only [grid_Field.l1] at H
              by_cases c14 : x30_2 < (l2.length : Int)
              · rw [if_pos c14] at H
                have c14b0 : decide (x30_2 < (l2.length : Int)) = true := decide_eq_true c14
                clear c14
                by_cases c15 : 0 ≤ x30_2
                · rw [if_pos c15] at H
                  have c15b0 : decide (0 ≤ x30_2) = true := decide_eq_true c15
                  clear c15
                  by_cases c16 : x30_2 < (l2.length : Int)
                  · rw [if_pos c16] at H
                    have c16b0 : decide (x30_2 < (l2.length : Int)) = true := decide_eq_true c16
                    clear c16
                    by_cases c17 : (rd l2 x30_2) ≥ 0
                    · rw [if_pos c17] at H
                      have c17b0 : decide (0 ≤ (rd l2 x30_2)) = true := decide_eq_true c17
                      clear c17
                      by_cases c18 : (rd l2 x30_2) < 384
                      · rw [if_pos c18] at H
                        have c18b0 : decide ((rd l2 x30_2) < 384) = true := decide_eq_true c18
                        clear c18
                        by_cases c19 : 0 ≤ (rd l2 x30_2)
                        · rw [if_pos c19] at H
                          have c19b0 : decide (0 ≤ (rd l2 x30_2)) = true := decide_eq_true c19
                          clear c19
                          by_cases c20 : (rd l2 x30_2) < (x7_2.length : Int)
                          · rw [if_pos c20] at H
                            have c20b0 : decide ((rd l2 x30_2) < (x7_2.length : Int)) = true := decide_eq_true c20
                            clear c20
                            by_cases c21 : (rd x7_2 (rd l2 x30_2)) < 0
                            · rw [if_pos c21] at H
                              have c21b0 : decide ((rd x7_2 (rd l2 x30_2)) < 0) = true := decide_eq_true c21
                              clear c21
                              replace H := Option.bind_eq_some_iff.mp H
                              obtain ⟨t138, A220, H⟩ := H
                              replace H : ((grid_Walk.f t138).bind fun t139 => (if t139 = true then (if x9_2.length < 17592186044416 then (grid_Field.l1 k2 l0 l1 (x7_2.set ((rd l2 x30_2) : Int).toNat 0) (x9_2 ++ [rd l2 x30_2]) l2 (l2.length : Int) (wrap64 (x30_2 + 1))) else (none)) else (grid_Field.l1 k2 l0 l1 x7_2 x9_2 l2 (l2.length : Int) (wrap64 (x30_2 + 1))))) = some r := H
                              have A22 := Aside0.mk A220
                              clear A220
                              replace H := Option.bind_eq_some_iff.mp H
                              obtain ⟨t139, A230, H⟩ := H
                              replace H : (if t139 = true then (if x9_2.length < 17592186044416 then (grid_Field.l1 k2 l0 l1 (x7_2.set ((rd l2 x30_2) : Int).toNat 0) (x9_2 ++ [rd l2 x30_2]) l2 (l2.length : Int) (wrap64 (x30_2 + 1))) else (none)) else (grid_Field.l1 k2 l0 l1 x7_2 x9_2 l2 (l2.length : Int) (wrap64 (x30_2 + 1)))) = some r := H
                              have A23 := Aside0.mk A230
                              clear A230
                              by_cases c24 : t139 = true
                              · subst c24
                                have H1 : (if x9_2.length < 17592186044416 then (grid_Field.l1 k2 l0 l1 (x7_2.set ((rd l2 x30_2) : Int).toNat 0) (x9_2 ++ [rd l2 x30_2]) l2 (l2.length : Int) (wrap64 (x30_2 + 1))) else (none)) = some r := by rw [if_pos rfl] at H; exact H
                                clear H
                                have H := H1
                                clear H1
                                obtain ⟨y140, hy140⟩ : ∃ y_ : List Int, y_ = (x7_2.set ((rd l2 x30_2) : Int).toNat 0) := ⟨_, rfl⟩
                                replace H : (if x9_2.length < 17592186044416 then (grid_Field.l1 k2 l0 l1 y140 (x9_2 ++ [rd l2 x30_2]) l2 (l2.length : Int) (wrap64 (x30_2 + 1))) else (none)) = some r := by first | (rw [hy140]; with_reducible exact H) | (have H2_ := (Option.bind_some _ _).symm.trans H; rw [hy140]; with_reducible exact H2_) | (have H2_ := (Option.bind_some _ _).symm.trans H; with_reducible exact H2_) | with_reducible exact H | (rw [hy140]; exact H) | exact H
                                have Ny140 := Aside0.mk hy140
                                clear hy140
                                by_cases c26 : x9_2.length < 17592186044416
                                · rw [if_pos c26] at H
                                  have LMc26 := Aside0.mk c26
                                  clear c26
                                  obtain ⟨y141, hy141⟩ : ∃ y_ : List Int, y_ = (x9_2 ++ [rd l2 x30_2]) := ⟨_, rfl⟩
                                  replace H : (grid_Field.l1 k2 l0 l1 y140 y141 l2 (l2.length : Int) (wrap64 (x30_2 + 1))) = some r := by first | (rw [hy141]; with_reducible exact H) | (have H2_ := (Option.bind_some _ _).symm.trans H; rw [hy141]; with_reducible exact H2_) | (have H2_ := (Option.bind_some _ _).symm.trans H; with_reducible exact H2_) | with_reducible exact H | (rw [hy141]; exact H) | exact H
                                  have Ny141 := Aside0.mk hy141
                                  clear hy141
                                  have H' := Aside0.mk H
                                  clear H
                                  have p136 : 0 ≤ (x30_2 : Int) := of_decide_eq_true (by first | (with_reducible assumption) | assumption)
                                  have q136 : x30_2 < (l2.length : Int) := of_decide_eq_true (by first | (with_reducible assumption) | assumption)
                                  obtain ⟨ad136, e136, hx136_0⟩ := Kd.at_int HR2.out x30_2 p136 q136
                                  cases e136
                                  replace hx136_0 := (HB.out.cell (World.block_lt_of_cell? w _ hx136_0)).trans hx136_0
                                  replace p136 := eq_true p136
                                  replace q136 := eq_true q136
                                  have p137 : 0 ≤ ((rd l2 x30_2) : Int) := of_decide_eq_true (by first | (with_reducible assumption) | assumption)
                                  have q137 : (rd l2 x30_2) < (x7_2.length : Int) := of_decide_eq_true (by first | (with_reducible assumption) | assumption)
                                  obtain ⟨ad137, e137, hx137_0⟩ := Kd.at_int (Kd.R_reads' HO_7.out).2.2 (rd l2 x30_2) p137 q137
                                  cases e137
                                  replace p137 := eq_true p137
                                  replace q137 := eq_true q137
                                  go_wp2_with (first | (go_at_call 26; (with_reducible refine (grid_kind.calls _ _ l0 (rd l2 x30_2) t138 _ ?side1 ?side2 A22.out).mono ?_); (case side1 => repeat (first | exact (Kd.C_below HR0.out HB.out) | (with_reducible refine Kd.C_alloc ?_ _) | (with_reducible refine Kd.C_drewN ?_ _) | (with_reducible refine Kd.C_drew ?_))); (case side2 => exact HC0.out); rintro e w' ⟨rfl, ⟨nd, rfl⟩⟩; (try (rw [drewN_self wr]; generalize hq_ : World.drewN wr _ = wr; have n0_ : Aside0 (Kd.R (Kd.int .i64) 3 wr w.heap.size (fun k_ => some k_ ≠ (u9 : Value).ownBlock) (.slice (some ad137) x7_2.length co7) x7_2) := ⟨by rw [← hq_]; exact (by (with_reducible repeat (first | apply Kd.R_alloc | apply Kd.R_drewN | apply Kd.R_drew)); exact HO_7.out)⟩; have n1_ : Aside0 (Kd.R (Kd.int .i64) 3 wr w.heap.size (fun k_ => some k_ ≠ (.slice (some ad137) x7_2.length co7 : Value).ownBlock) u9 x9_2) := ⟨by rw [← hq_]; exact (by (with_reducible repeat (first | apply Kd.R_alloc | apply Kd.R_drewN | apply Kd.R_drew)); exact HO_9.out)⟩; have n2_ : Aside0 (Below w.heap.size w wr) := ⟨by rw [← hq_]; exact (by repeat (first | (with_reducible first | exact HB.out | apply below_alloc | apply pw_below_drewN | apply below_drew1) | exact HB.out))⟩; clear HO_7 HO_9 HB hq_; have HO_7 := n0_; have HO_9 := n1_; have HB := n2_; clear n0_ n1_ n2_))) | (go_at_call 29; (with_reducible refine (grid_Walk.calls t138 true _ A23.out).mono ?_); rintro e w' ⟨rfl, ⟨nd, rfl⟩⟩; (try (rw [drewN_self wr]; generalize hq_ : World.drewN wr _ = wr; have n0_ : Aside0 (Kd.R (Kd.int .i64) 3 wr w.heap.size (fun k_ => some k_ ≠ (u9 : Value).ownBlock) (.slice (some ad137) x7_2.length co7) x7_2) := ⟨by rw [← hq_]; exact (by (with_reducible repeat (first | apply Kd.R_alloc | apply Kd.R_drewN | apply Kd.R_drew)); exact HO_7.out)⟩; have n1_ : Aside0 (Kd.R (Kd.int .i64) 3 wr w.heap.size (fun k_ => some k_ ≠ (.slice (some ad137) x7_2.length co7 : Value).ownBlock) u9 x9_2) := ⟨by rw [← hq_]; exact (by (with_reducible repeat (first | apply Kd.R_alloc | apply Kd.R_drewN | apply Kd.R_drew)); exact HO_9.out)⟩; have n2_ : Aside0 (Below w.heap.size w wr) := ⟨by rw [← hq_]; exact (by repeat (first | (with_reducible first | exact HB.out | apply below_alloc | apply pw_below_drewN | apply below_drew1) | exact HB.out))⟩; clear HO_7 HO_9 HB hq_; have HO_7 := n0_; have HO_9 := n1_; have HB := n2_; clear n0_ n1_ n2_)); have p25 : 0 ≤ ((rd l2 x30_2) : Int) := of_decide_eq_true (by first | (with_reducible assumption) | assumption); have q25 : ((rd l2 x30_2) : Int) < ((x7_2.length : Int) : Int) := of_decide_eq_true (by first | (with_reducible assumption) | assumption); obtain ⟨go25, co25, eo25, gb25, gl25, cl25, HG25⟩ := Kd.R_form HO_7.out (by omega); (first | cases eo25 | (injection eo25 with ea_ en_ ec_; (first | subst ea_ | (injection ea_ with ea_; subst ea_)); subst ec_; clear en_)); have GB25 := Aside0.mk gb25; have GG25 := Aside0.mk HG25; clear gb25 gl25 HG25; (first | simp only [add_plain] at hx137_0 | skip); obtain ⟨hx25_0, hf25_0⟩ := Kd.R_celln 0 HO_7.out ((rd l2 x30_2) : Int) p25 q25; replace p25 := eq_true p25; replace q25 := eq_true q25; obtain ⟨hy27_, hz27_⟩ := Kd.R_celln 0 HO_7.out ((rd l2 x30_2) : Int) (of_decide_eq_true (by first | (with_reducible assumption) | assumption)) (of_decide_eq_true (by first | (with_reducible assumption) | assumption)); have HP27 := Kd.R_putg HO_7.out ((rd l2 x30_2) : Int) 0) | ((with_reducible refine gate_store (t := 3) (p := 55) rfl ?_); refine store_event (t := 3) (p := 55) (v := ?vo_w28) (w1 := (wr.setCell ⟨go25, ((rd l2 x30_2) : Int).toNat, none⟩ (.int .i64 0))) ?hg ?ho ?hn ?hr ?_; (case ho => rfl); (case hg => rfl); (case hn => rfl); (case hr => first | (go_simp; done) | (go_simp; rfl)); intro w28 hw; have hg : wr.grownBy w28 (some go25) := (by rw [hw]; exact HP27.2); have hp_ : Kd.R (Kd.int .i64) 3 w28 w.heap.size (fun k_ => some k_ ≠ (u9 : Value).ownBlock) (.slice (some ⟨go25, 0, none⟩) x7_2.length co7) y140 := (by rw [hw, Ny140.out]; exact HP27.1); clear HP27; have n0_ := Aside0.mk (hp_); have n1_ := Aside0.mk (Kd.R_after (v := (.slice (some ⟨go25, 0, none⟩) x7_2.length co7)) (v1 := (.slice (some ⟨go25, 0, none⟩) x7_2.length co7)) (ok := (fun _ => True)) (by (with_reducible repeat (first | apply Kd.R_alloc | apply Kd.R_drewN | apply Kd.R_drew)); exact Kd.R_mono HO_9.out (fun _ hk => ⟨trivial, hk⟩)) hg (.inl rfl)); have n2_ := Aside0.mk ((by rw [hw]; exact below_set (HB.out) GB25.out : Below w.heap.size w w28)); clear HO_7; clear HO_9; clear HB; have HO_7 := n0_; have HO_9 := n1_; have HB := n2_; clear n0_ n1_ n2_; clear hg hw hp_) | ((with_reducible refine gate_builtin (b := .append) (xs := #[.tmp 56, .tmp 58]) rfl ?_); (try (refine gate_guard (by rfl) ?_; dsimp only)); at_builtin; refine Kd.R_append (Kd.int .i64) (w0 := w) w.heap.size rfl (.tmp 56) (.tmp 58) 24 3 (.int .i64 0) 8 rfl Try.underlying24 info3 rfl (by decide) (by omega) u9 x9_2 (rd l2 x30_2) [.int .i64 (rd l2 x30_2)] (fun k_ => some k_ ≠ (.slice (some ⟨go25, 0, none⟩) x7_2.length co7 : Value).ownBlock) (fun _ => False) rfl rfl ?aP (fun _ hk => hk.elim) ?aF ?aO ?aB ?aS ?aL ?_; (case aP => exact rfl); (case aB => exact (by repeat (first | (with_reducible first | exact HB.out | apply below_alloc | apply pw_below_drewN | apply below_drew1) | exact HB.out))); (case aF => exact (fun k_ hk => Kd.fresh' (Kd.R_lt (by (with_reducible repeat (first | apply Kd.R_alloc | apply Kd.R_drewN | apply Kd.R_drew)); exact HO_7.out)) k_ hk)); (case aO => exact (by (with_reducible repeat (first | apply Kd.R_alloc | apply Kd.R_drewN | apply Kd.R_drew)); exact Kd.R_mono HO_9.out (fun _ hk => hk.2))); (case aS => exact (below_size (by repeat (first | (with_reducible first | exact HB.out | apply below_alloc | apply pw_below_drewN | apply below_drew1) | exact HB.out)))); (case aL => have := LMc26.out; omega); intro v142 w29 ho hb hg hat; rw [← Ny141.out] at ho; have n0_ := Aside0.mk (Kd.R_after (ok := (fun _ => True)) (by (with_reducible repeat (first | apply Kd.R_alloc | apply Kd.R_drewN | apply Kd.R_drew)); exact Kd.R_mono HO_7.out (fun _ hk => ⟨trivial, hk⟩)) hg hat); have n1_ := Aside0.mk (hb); have n2_ := Aside0.mk (ho); clear HO_7; clear HB; clear HO_9; have HO_7 := n0_; have HB := n1_; have HO143 := n2_; clear n0_ n1_ n2_; clear ho hb hg hat))
                                  (try simp only [← hl7_2])
                                  go_roundg k2
                                  case measure => have := HK1.out; have := HK2.out; omega
                                  case rel => exact ⟨(y140), (y141), (wrap64 (x30_2 + 1)), (by first | rfl | (simp; done) | (simp [*]; done)), H', ⟨by have := HK1.out; have := HK2.out; omega⟩, ⟨by (try simp only [hl7_1]); (try simp only [hl7_2]); (with_reducible repeat (first | apply Kd.R_alloc | apply Kd.R_drewN | apply Kd.R_drew)); exact Kd.R_mono HO_7.out (fun _ hk => hk.2)⟩, ⟨by (try simp only [hl7_1]); (try simp only [hl7_2]); (with_reducible repeat (first | apply Kd.R_alloc | apply Kd.R_drewN | apply Kd.R_drew)); exact HO143.out⟩, ⟨by repeat (first | (with_reducible first | exact HB.out | apply below_alloc | apply pw_below_drewN | apply below_drew1) | exact HB.out)⟩⟩
                                · rw [if_neg c26] at H
                                  exact absurd H (by simp)
                              · replace c24 := Bool.eq_false_iff.mpr c24
                                subst c24
                                have H1 : (grid_Field.l1 k2 l0 l1 x7_2 x9_2 l2 (l2.length : Int) (wrap64 (x30_2 + 1))) = some r := by rw [if_neg (show ¬ (false = true) by decide)] at H; exact H
                                clear H
                                have H := H1
                                clear H1
                                have H' := Aside0.mk H
                                clear H
                                have p136 : 0 ≤ (x30_2 : Int) := of_decide_eq_true (by first | (with_reducible assumption) | assumption)
                                have q136 : x30_2 < (l2.length : Int) := of_decide_eq_true (by first | (with_reducible assumption) | assumption)
                                obtain ⟨ad136, e136, hx136_0⟩ := Kd.at_int HR2.out x30_2 p136 q136
                                cases e136
                                replace hx136_0 := (HB.out.cell (World.block_lt_of_cell? w _ hx136_0)).trans hx136_0
                                replace p136 := eq_true p136
                                replace q136 := eq_true q136
                                have p137 : 0 ≤ ((rd l2 x30_2) : Int) := of_decide_eq_true (by first | (with_reducible assumption) | assumption)
                                have q137 : (rd l2 x30_2) < (x7_2.length : Int) := of_decide_eq_true (by first | (with_reducible assumption) | assumption)
                                obtain ⟨ad137, e137, hx137_0⟩ := Kd.at_int (Kd.R_reads' HO_7.out).2.2 (rd l2 x30_2) p137 q137
                                cases e137
                                replace p137 := eq_true p137
                                replace q137 := eq_true q137
                                go_wp2_with (first | (go_at_call 26; (with_reducible refine (grid_kind.calls _ _ l0 (rd l2 x30_2) t138 _ ?side1 ?side2 A22.out).mono ?_); (case side1 => repeat (first | exact (Kd.C_below HR0.out HB.out) | (with_reducible refine Kd.C_alloc ?_ _) | (with_reducible refine Kd.C_drewN ?_ _) | (with_reducible refine Kd.C_drew ?_))); (case side2 => exact HC0.out); rintro e w' ⟨rfl, ⟨nd, rfl⟩⟩) | (go_at_call 29; (with_reducible refine (grid_Walk.calls t138 false _ A23.out).mono ?_); rintro e w' ⟨rfl, ⟨nd, rfl⟩⟩))
                                (try simp only [← hl7_2])
                                go_roundg k2
                                case measure => have := HK1.out; have := HK2.out; omega
                                case rel => exact ⟨(x7_2), (x9_2), (wrap64 (x30_2 + 1)), (by first | rfl | (simp; done) | (simp [*]; done)), H', ⟨by have := HK1.out; have := HK2.out; omega⟩, ⟨by (try simp only [hl7_1]); (try simp only [hl7_2]); (with_reducible repeat (first | apply Kd.R_alloc | apply Kd.R_drewN | apply Kd.R_drew)); exact HO_7.out⟩, ⟨by (try simp only [hl7_1]); (try simp only [hl7_2]); (with_reducible repeat (first | apply Kd.R_alloc | apply Kd.R_drewN | apply Kd.R_drew)); exact HO_9.out⟩, ⟨by repeat (first | (with_reducible first | exact HB.out | apply below_alloc | apply pw_below_drewN | apply below_drew1) | exact HB.out)⟩⟩
                            · rw [if_neg c21] at H
                              have c21b0 : decide ((rd x7_2 (rd l2 x30_2)) < 0) = false := decide_eq_false c21
                              clear c21
                              have H' := Aside0.mk H
                              clear H
                              have p136 : 0 ≤ (x30_2 : Int) := of_decide_eq_true (by first | (with_reducible assumption) | assumption)
                              have q136 : x30_2 < (l2.length : Int) := of_decide_eq_true (by first | (with_reducible assumption) | assumption)
                              obtain ⟨ad136, e136, hx136_0⟩ := Kd.at_int HR2.out x30_2 p136 q136
                              cases e136
                              replace hx136_0 := (HB.out.cell (World.block_lt_of_cell? w _ hx136_0)).trans hx136_0
                              replace p136 := eq_true p136
                              replace q136 := eq_true q136
                              have p137 : 0 ≤ ((rd l2 x30_2) : Int) := of_decide_eq_true (by first | (with_reducible assumption) | assumption)
                              have q137 : (rd l2 x30_2) < (x7_2.length : Int) := of_decide_eq_true (by first | (with_reducible assumption) | assumption)
                              obtain ⟨ad137, e137, hx137_0⟩ := Kd.at_int (Kd.R_reads' HO_7.out).2.2 (rd l2 x30_2) p137 q137
                              cases e137
                              replace p137 := eq_true p137
                              replace q137 := eq_true q137
                              go_wp2
                              (try simp only [← hl7_2])
                              go_roundg k2
                              case measure => have := HK1.out; have := HK2.out; omega
                              case rel => exact ⟨(x7_2), (x9_2), (wrap64 (x30_2 + 1)), (by first | rfl | (simp; done) | (simp [*]; done)), H', ⟨by have := HK1.out; have := HK2.out; omega⟩, ⟨by (try simp only [hl7_1]); (try simp only [hl7_2]); (with_reducible repeat (first | apply Kd.R_alloc | apply Kd.R_drewN | apply Kd.R_drew)); exact HO_7.out⟩, ⟨by (try simp only [hl7_1]); (try simp only [hl7_2]); (with_reducible repeat (first | apply Kd.R_alloc | apply Kd.R_drewN | apply Kd.R_drew)); exact HO_9.out⟩, ⟨by repeat (first | (with_reducible first | exact HB.out | apply below_alloc | apply pw_below_drewN | apply below_drew1) | exact HB.out)⟩⟩
                          · rw [if_neg c20] at H
                            exact absurd H (by simp)
                        · rw [if_neg c19] at H
                          exact absurd H (by simp)
                      · rw [if_neg c18] at H
                        have c18b0 : decide ((rd l2 x30_2) < 384) = false := decide_eq_false c18
                        clear c18
                        have H' := Aside0.mk H
                        clear H
                        have p136 : 0 ≤ (x30_2 : Int) := of_decide_eq_true (by first | (with_reducible assumption) | assumption)
                        have q136 : x30_2 < (l2.length : Int) := of_decide_eq_true (by first | (with_reducible assumption) | assumption)
                        obtain ⟨ad136, e136, hx136_0⟩ := Kd.at_int HR2.out x30_2 p136 q136
                        cases e136
                        replace hx136_0 := (HB.out.cell (World.block_lt_of_cell? w _ hx136_0)).trans hx136_0
                        replace p136 := eq_true p136
                        replace q136 := eq_true q136
                        go_wp2
                        (try simp only [← hl7_2])
                        go_roundg k2
                        case measure => have := HK1.out; have := HK2.out; omega
                        case rel => exact ⟨(x7_2), (x9_2), (wrap64 (x30_2 + 1)), (by first | rfl | (simp; done) | (simp [*]; done)), H', ⟨by have := HK1.out; have := HK2.out; omega⟩, ⟨by (try simp only [hl7_1]); (try simp only [hl7_2]); (with_reducible repeat (first | apply Kd.R_alloc | apply Kd.R_drewN | apply Kd.R_drew)); exact HO_7.out⟩, ⟨by (try simp only [hl7_1]); (try simp only [hl7_2]); (with_reducible repeat (first | apply Kd.R_alloc | apply Kd.R_drewN | apply Kd.R_drew)); exact HO_9.out⟩, ⟨by repeat (first | (with_reducible first | exact HB.out | apply below_alloc | apply pw_below_drewN | apply below_drew1) | exact HB.out)⟩⟩
                    · rw [if_neg c17] at H
                      have c17b0 : decide (0 ≤ (rd l2 x30_2)) = false := decide_eq_false c17
                      clear c17
                      have H' := Aside0.mk H
                      clear H
                      have p136 : 0 ≤ (x30_2 : Int) := of_decide_eq_true (by first | (with_reducible assumption) | assumption)
                      have q136 : x30_2 < (l2.length : Int) := of_decide_eq_true (by first | (with_reducible assumption) | assumption)
                      obtain ⟨ad136, e136, hx136_0⟩ := Kd.at_int HR2.out x30_2 p136 q136
                      cases e136
                      replace hx136_0 := (HB.out.cell (World.block_lt_of_cell? w _ hx136_0)).trans hx136_0
                      replace p136 := eq_true p136
                      replace q136 := eq_true q136
                      go_wp2
                      (try simp only [← hl7_2])
                      go_roundg k2
                      case measure => have := HK1.out; have := HK2.out; omega
                      case rel => exact ⟨(x7_2), (x9_2), (wrap64 (x30_2 + 1)), (by first | rfl | (simp; done) | (simp [*]; done)), H', ⟨by have := HK1.out; have := HK2.out; omega⟩, ⟨by (try simp only [hl7_1]); (try simp only [hl7_2]); (with_reducible repeat (first | apply Kd.R_alloc | apply Kd.R_drewN | apply Kd.R_drew)); exact HO_7.out⟩, ⟨by (try simp only [hl7_1]); (try simp only [hl7_2]); (with_reducible repeat (first | apply Kd.R_alloc | apply Kd.R_drewN | apply Kd.R_drew)); exact HO_9.out⟩, ⟨by repeat (first | (with_reducible first | exact HB.out | apply below_alloc | apply pw_below_drewN | apply below_drew1) | exact HB.out)⟩⟩
                  · rw [if_neg c16] at H
                    exact absurd H (by simp)
                · rw [if_neg c15] at H
                  exact absurd H (by simp)
              · rw [if_neg c14] at H
                have c14b0 : decide (x30_2 < (l2.length : Int)) = false := decide_eq_false c14
                (try simp only [hl7_1] at c14b0)
                (try simp only [hl7_2] at c14b0)
                clear c14
                have H' := Aside0.mk H
                clear H
                go_wp2
                go_step3
                go_step
                go_step
                dsimp (zetaDelta := true) only
                refine wp_rest_ghost (fun es kq a' w' => ∃ u9 u10 u13 u15 u17 u61 u62 u63 u64 u65 u66 u67 u68 u69 u70 u71 u72 u73 u74 u75 u76 u77 u78 u79 u80 u81 u82 u83 u84 u85 u86 u87 u88 u89 u90 u91 u92 u93 u94 u95 u96 u97 u98 u99 u100 u101 u102 u103 u104 u105 u106 u107 u108 u109 u110 u111 u112 u113 u114 u115 : Value, (∃ (x7_3 : List Int) (x9_3 : List Int) (x13_3 : Int), u13 = .int .i64 x13_3 ∧ Aside0 (grid_Field.l2 kq l0 l1 x7_3 x9_3 x13_3 = some r) ∧ Aside0 (kq ≤ k2) ∧ Aside0 (Kd.R (Kd.int .i64) 3 w' w.heap.size (fun k_ => some k_ ≠ (u9 : Value).ownBlock) (.slice Ao7 x7_2.length co7) x7_3) ∧ Aside0 (Kd.R (Kd.int .i64) 3 w' w.heap.size (fun k_ => some k_ ≠ ((.slice Ao7 x7_2.length co7) : Value).ownBlock) u9 x9_3) ∧ Aside0 (Below w.heap.size w w')) ∧ a' = ⟨(upd [false, false, false, false, false, false, false, false, false, true, true, false, false, true, false, true, false, true, false, false, false, false, false, false, false, false, false, false, false, false, false, false, false, false, false, false, false, false, false, false, false, false, false, false, false, false, false, false, false, false, false, false, false, false, false, false, false, false, false, false, false, true, true, true, true, true, true, true, true, true, true, true, true, true, true, true, true, true, true, true, true, true, true, true, true, true, true, true, true, true, true, true, true, true, true, true, true, true, true, true, true, true, true, true, true, true, true, true, true, true, true, true, true, true, true, true] [u9, u10, u13, u15, u17, u61, u62, u63, u64, u65, u66, u67, u68, u69, u70, u71, u72, u73, u74, u75, u76, u77, u78, u79, u80, u81, u82, u83, u84, u85, u86, u87, u88, u89, u90, u91, u92, u93, u94, u95, u96, u97, u98, u99, u100, u101, u102, u103, u104, u105, u106, u107, u108, u109, u110, u111, u112, u113, u114, u115] es).toArray, []⟩) k2 ?hstart ?hround
                case hstart =>
                  (repeat apply Exists.intro)
                  refine ⟨?atStart, rfl⟩
                  case atStart => exact ⟨(x7_2), (x9_2), (0), (by first | rfl | (simp; done) | (simp [*]; done)), H', ⟨Nat.le_refl _⟩, ⟨by (try simp only [hl7_1]); (try simp only [hl7_2]); (with_reducible repeat (first | apply Kd.R_alloc | apply Kd.R_drewN | apply Kd.R_drew)); exact HO_7.out⟩, ⟨by (try simp only [hl7_1]); (try simp only [hl7_2]); (with_reducible repeat (first | apply Kd.R_alloc | apply Kd.R_drewN | apply Kd.R_drew)); exact HO_9.out⟩, ⟨by repeat (first | (with_reducible first | exact HB.out | apply below_alloc | apply pw_below_drewN | apply below_drew1) | exact HB.out)⟩⟩
                case hround =>
                  intro gk _ wr hinv
                  obtain ⟨u9, hinv⟩ := hinv
                  obtain ⟨u10, hinv⟩ := hinv
                  obtain ⟨u13, hinv⟩ := hinv
                  obtain ⟨u15, hinv⟩ := hinv
                  obtain ⟨u17, hinv⟩ := hinv
                  obtain ⟨u61, hinv⟩ := hinv
                  obtain ⟨u62, hinv⟩ := hinv
                  obtain ⟨u63, hinv⟩ := hinv
                  obtain ⟨u64, hinv⟩ := hinv
                  obtain ⟨u65, hinv⟩ := hinv
                  obtain ⟨u66, hinv⟩ := hinv
                  obtain ⟨u67, hinv⟩ := hinv
                  obtain ⟨u68, hinv⟩ := hinv
                  obtain ⟨u69, hinv⟩ := hinv
                  obtain ⟨u70, hinv⟩ := hinv
                  obtain ⟨u71, hinv⟩ := hinv
                  obtain ⟨u72, hinv⟩ := hinv
                  obtain ⟨u73, hinv⟩ := hinv
                  obtain ⟨u74, hinv⟩ := hinv
                  obtain ⟨u75, hinv⟩ := hinv
                  obtain ⟨u76, hinv⟩ := hinv
                  obtain ⟨u77, hinv⟩ := hinv
                  obtain ⟨u78, hinv⟩ := hinv
                  obtain ⟨u79, hinv⟩ := hinv
                  obtain ⟨u80, hinv⟩ := hinv
                  obtain ⟨u81, hinv⟩ := hinv
                  obtain ⟨u82, hinv⟩ := hinv
                  obtain ⟨u83, hinv⟩ := hinv
                  obtain ⟨u84, hinv⟩ := hinv
                  obtain ⟨u85, hinv⟩ := hinv
                  obtain ⟨u86, hinv⟩ := hinv
                  obtain ⟨u87, hinv⟩ := hinv
                  obtain ⟨u88, hinv⟩ := hinv
                  obtain ⟨u89, hinv⟩ := hinv
                  obtain ⟨u90, hinv⟩ := hinv
                  obtain ⟨u91, hinv⟩ := hinv
                  obtain ⟨u92, hinv⟩ := hinv
                  obtain ⟨u93, hinv⟩ := hinv
                  obtain ⟨u94, hinv⟩ := hinv
                  obtain ⟨u95, hinv⟩ := hinv
                  obtain ⟨u96, hinv⟩ := hinv
                  obtain ⟨u97, hinv⟩ := hinv
                  obtain ⟨u98, hinv⟩ := hinv
                  obtain ⟨u99, hinv⟩ := hinv
                  obtain ⟨u100, hinv⟩ := hinv
                  obtain ⟨u101, hinv⟩ := hinv
                  obtain ⟨u102, hinv⟩ := hinv
                  obtain ⟨u103, hinv⟩ := hinv
                  obtain ⟨u104, hinv⟩ := hinv
                  obtain ⟨u105, hinv⟩ := hinv
                  obtain ⟨u106, hinv⟩ := hinv
                  obtain ⟨u107, hinv⟩ := hinv
                  obtain ⟨u108, hinv⟩ := hinv
                  obtain ⟨u109, hinv⟩ := hinv
                  obtain ⟨u110, hinv⟩ := hinv
                  obtain ⟨u111, hinv⟩ := hinv
                  obtain ⟨u112, hinv⟩ := hinv
                  obtain ⟨u113, hinv⟩ := hinv
                  obtain ⟨u114, hinv⟩ := hinv
                  obtain ⟨u115, hinv⟩ := hinv
                  obtain ⟨hrel, ha⟩ := hinv
                  subst ha
                  simp only [upd_t, upd_f, upd_n]
                  intro J_ K_ hJ_ hK_
                  clear H'
                  try clear c1
                  try clear p1
                  try clear q1
                  try clear hx1
                  try clear c2
                  try clear p2
                  try clear q2
                  try clear hx2
                  try clear c4
                  try clear c4b0
                  try clear c4b1
                  try clear p6
                  try clear c8
                  try clear c8b0
                  try clear c9
                  try clear c9b0
                  try clear c10
                  try clear c10b0
                  try clear p11
                  try clear q11
                  try clear hx11
                  try clear hf11
                  try clear p13
                  try clear q13
                  try clear hx13
                  try clear c14
                  try clear c14b0
                  try clear c15
                  try clear c15b0
                  try clear c16
                  try clear c16b0
                  try clear c17
                  try clear c17b0
                  try clear c18
                  try clear c18b0
                  try clear c19
                  try clear c19b0
                  try clear c20
                  try clear c20b0
                  try clear c21
                  try clear c21b0
                  try clear c24
                  try clear p25
                  try clear q25
                  try clear hx25
                  try clear hf25
                  try clear c26
                  try clear hx11_0
                  try clear hx136_0
                  try clear hx137_0
                  try clear hx25_0
                  try clear p1
                  try clear p11
                  try clear p136
                  try clear p137
                  try clear p2
                  try clear p25
                  try clear p6
                  try clear q1
                  try clear q11
                  try clear q136
                  try clear q137
                  try clear q25
                  obtain ⟨x7_3, x9_3, x13_3, rfl, HA, HK3, HO_7, HO_9, HB⟩ := hrel
                  have hl7_3 := (Kd.R_reads' HO_7.out).1
                  rw [hl7_3] at HO_7
                  (try simp only [hl7_3])
                  (try simp only [hl7_3] at HO_9)
                  cases gk with
                  | zero => exact absurd HA.out (by simp [grid_Field.l2])
                  | succ k3 =>
                    have H := HA.out
                    clear HA
                    simp only [grid_Field.l2] at H
                    have H' := Aside0.mk H
                    clear H
                    obtain ⟨Ao30, co30, eo30⟩ := Kd.R_slice HO_9.out
                    subst eo30
                    go_wp2
                    go_loopg [10, 65] k3 (fun kq v10 v65 w' => ∃ (x7_4 : List Int) (x10_4 : List Int) (x65_4 : Int), v65 = .int .i64 x65_4 ∧ Aside0 (grid_Field.l3 kq l0 l1 x7_4 x10_4 (wrap64 (x13_3 + 1)) x9_3 (x9_3.length : Int) x65_4 = some r) ∧ Aside0 (kq ≤ k3) ∧ Aside0 (Kd.R (Kd.int .i64) 3 w' w.heap.size (fun k_ => some k_ ≠ (v10 : Value).ownBlock ∧ some k_ ≠ ((.slice Ao30 x9_3.length co30) : Value).ownBlock) (.slice Ao7 x7_3.length co7) x7_4) ∧ Aside0 (Kd.R (Kd.int .i64) 3 w' w.heap.size (fun k_ => some k_ ≠ ((.slice Ao7 x7_3.length co7) : Value).ownBlock ∧ some k_ ≠ ((.slice Ao30 x9_3.length co30) : Value).ownBlock) v10 x10_4) ∧ Aside0 (Kd.R (Kd.int .i64) 3 w' w.heap.size (fun k_ => some k_ ≠ ((.slice Ao7 x7_3.length co7) : Value).ownBlock ∧ some k_ ≠ (v10 : Value).ownBlock) (.slice Ao30 x9_3.length co30) x9_3) ∧ Aside0 (Below w.heap.size w w'))
                    case atStart => exact ⟨(x7_3), (([] : List Int)), (0), (by first | rfl | (simp; done) | (simp [*]; done)), H', ⟨Nat.le_refl _⟩, ⟨by (try simp only [hl7_1]); (try simp only [hl7_2]); (try simp only [hl7_3]); (with_reducible repeat (first | apply Kd.R_alloc | apply Kd.R_drewN | apply Kd.R_drew)); exact Kd.R_mono HO_7.out (fun _ hk => ⟨(by simp [Value.ownBlock]), hk⟩)⟩, ⟨by (try simp only [hl7_1]); (try simp only [hl7_2]); (try simp only [hl7_3]); first | exact Kd.R_nil _ _ _ _ _ | exact Kd.N_nil _ _ _ _ _ | exact Kd.V_nil _ _ _ _ _ | exact Kd.Q_nil _ _ _ _ _ | exact Kd.S_nil _ _ _ _ _⟩, ⟨by (try simp only [hl7_1]); (try simp only [hl7_2]); (try simp only [hl7_3]); (with_reducible repeat (first | apply Kd.R_alloc | apply Kd.R_drewN | apply Kd.R_drew)); exact Kd.R_mono HO_9.out (fun _ hk => ⟨hk, (by simp [Value.ownBlock])⟩)⟩, ⟨by repeat (first | (with_reducible first | exact HB.out | apply below_alloc | apply pw_below_drewN | apply below_drew1) | exact HB.out)⟩⟩
                    case round =>
                      clear H'
                      try clear c1
                      try clear p1
                      try clear q1
                      try clear hx1
                      try clear c2
                      try clear p2
                      try clear q2
                      try clear hx2
                      try clear c4
                      try clear c4b0
                      try clear c4b1
                      try clear p6
                      try clear c8
                      try clear c8b0
                      try clear c9
                      try clear c9b0
                      try clear c10
                      try clear c10b0
                      try clear p11
                      try clear q11
                      try clear hx11
                      try clear hf11
                      try clear p13
                      try clear q13
                      try clear hx13
                      try clear c14
                      try clear c14b0
                      try clear c15
                      try clear c15b0
                      try clear c16
                      try clear c16b0
                      try clear c17
                      try clear c17b0
                      try clear c18
                      try clear c18b0
                      try clear c19
                      try clear c19b0
                      try clear c20
                      try clear c20b0
                      try clear c21
                      try clear c21b0
                      try clear c24
                      try clear p25
                      try clear q25
                      try clear hx25
                      try clear hf25
                      try clear c26
                      try clear hx11_0
                      try clear hx136_0
                      try clear hx137_0
                      try clear hx25_0
                      try clear p1
                      try clear p11
                      try clear p13
                      try clear p136
                      try clear p137
                      try clear p2
                      try clear p25
                      try clear p6
                      try clear q1
                      try clear q11
                      try clear q13
                      try clear q136
                      try clear q137
                      try clear q2
                      try clear q25
                      obtain ⟨x7_4, x10_4, x65_4, rfl, HA, HK4, HO_7, HO_10, HO_63, HB⟩ := hrel
                      have hl7_4 := (Kd.R_reads' HO_7.out).1
                      rw [hl7_4] at HO_7
                      (try simp only [hl7_4])
                      (try simp only [hl7_4] at HO_10)
                      (try simp only [hl7_4] at HO_63)
                      cases gk with
                      | zero => exact absurd HA.out (by simp [grid_Field.l3])
                      | succ k4 =>
                        have H := HA.out
                        clear HA
                        simp only [grid_Field.l3] at H
                        by_cases c31 : x65_4 < (x9_3.length : Int)
                        · rw [if_pos c31] at H
                          have c31b0 : decide (x65_4 < (x9_3.length : Int)) = true := decide_eq_true c31
                          clear c31
                          by_cases c32 : 0 ≤ x65_4
                          · rw [if_pos c32] at H
                            have c32b0 : decide (0 ≤ x65_4) = true := decide_eq_true c32
                            clear c32
                            by_cases c33 : x65_4 < (x9_3.length : Int)
                            · rw [if_pos c33] at H
                              have c33b0 : decide (x65_4 < (x9_3.length : Int)) = true := decide_eq_true c33
                              clear c33
                              replace H := Option.bind_eq_some_iff.mp H
                              obtain ⟨⟨t145, t146, t147, t148⟩, A340, H⟩ := H
                              replace H : (grid_Field.l4 k4 l0 l1 x7_4 x10_4 (wrap64 (x13_3 + 1)) x9_3 (x9_3.length : Int) x65_4 0 t145 t146 t147 t148) = some r := H
                              have A34 := Aside0.mk A340
                              clear A340
                              have H' := Aside0.mk H
                              clear H
                              have p144 : 0 ≤ (x65_4 : Int) := of_decide_eq_true (by first | (with_reducible assumption) | assumption)
                              have q144 : x65_4 < (x9_3.length : Int) := of_decide_eq_true (by first | (with_reducible assumption) | assumption)
                              obtain ⟨ad144, e144, hx144_0⟩ := Kd.at_int (Kd.R_reads' HO_63.out).2.2 x65_4 p144 q144
                              cases e144
                              replace p144 := eq_true p144
                              replace q144 := eq_true q144
                              go_wp2_with (first | ((with_reducible refine gate_callee (f := 30) rfl ?_); refine goesL_ (some 70) rfl rfl Try.func30 (by kernel_rfl) rfl #[.int .i64 (rd x9_3 x65_4)] rfl (by (try simp only [List.map_toArray, List.map_cons, List.map_nil]); first | done | rfl | (simp only [List.length_drop, List.length_take]; rfl)) ?_; (with_reducible refine (grid_beside.calls (rd x9_3 x65_4) t145 t146 t147 t148 _ A34.out).mono ?_); rintro e w35 ⟨rfl, hb⟩; refine ⟨_, rfl, ?_⟩; have n0_ := Aside0.mk (Kd.R_below (by (with_reducible repeat (first | apply Kd.R_alloc | apply Kd.R_drewN | apply Kd.R_drew)); exact HO_7.out) hb); have n1_ := Aside0.mk (Kd.R_below (by (with_reducible repeat (first | apply Kd.R_alloc | apply Kd.R_drewN | apply Kd.R_drew)); exact HO_10.out) hb); have n2_ := Aside0.mk (Kd.R_below (by (with_reducible repeat (first | apply Kd.R_alloc | apply Kd.R_drewN | apply Kd.R_drew)); exact HO_63.out) hb); have n3_ := Aside0.mk (below_step (by repeat (first | (with_reducible first | exact HB.out | apply below_alloc | apply pw_below_drewN | apply below_drew1) | exact HB.out)) hb); clear HO_7; clear HO_10; clear HO_63; clear HB; have HO_7 := n0_; have HO_10 := n1_; have HO_63 := n2_; have HB := n3_; clear n0_ n1_ n2_ n3_; (try clear hb); (try clear hb2); (try clear hk); (try clear hi)))
                              go_loopg [10, 71] k4 (fun kq v10 v71 w' => ∃ (x7_5 : List Int) (x10_5 : List Int) (x71_5 : Int), v71 = .int .i64 x71_5 ∧ Aside0 (grid_Field.l4 kq l0 l1 x7_5 x10_5 (wrap64 (x13_3 + 1)) x9_3 (x9_3.length : Int) x65_4 x71_5 t145 t146 t147 t148 = some r) ∧ Aside0 (kq ≤ k4) ∧ Aside0 (Kd.R (Kd.int .i64) 3 w' w.heap.size (fun k_ => some k_ ≠ (v10 : Value).ownBlock ∧ some k_ ≠ ((.slice (some ad144) x9_3.length co30) : Value).ownBlock) (.slice Ao7 x7_4.length co7) x7_5) ∧ Aside0 (Kd.R (Kd.int .i64) 3 w' w.heap.size (fun k_ => some k_ ≠ ((.slice Ao7 x7_4.length co7) : Value).ownBlock ∧ some k_ ≠ ((.slice (some ad144) x9_3.length co30) : Value).ownBlock) v10 x10_5) ∧ Aside0 (Kd.R (Kd.int .i64) 3 w' w.heap.size (fun k_ => some k_ ≠ ((.slice Ao7 x7_4.length co7) : Value).ownBlock ∧ some k_ ≠ (v10 : Value).ownBlock) (.slice (some ad144) x9_3.length co30) x9_3) ∧ Aside0 (Below w.heap.size w w'))
                              case atStart => exact ⟨(x7_4), (x10_4), (0), (by first | rfl | (simp; done) | (simp [*]; done)), H', ⟨Nat.le_refl _⟩, ⟨by (try simp only [hl7_1]); (try simp only [hl7_2]); (try simp only [hl7_3]); (try simp only [hl7_4]); (with_reducible repeat (first | apply Kd.R_alloc | apply Kd.R_drewN | apply Kd.R_drew)); exact HO_7.out⟩, ⟨by (try simp only [hl7_1]); (try simp only [hl7_2]); (try simp only [hl7_3]); (try simp only [hl7_4]); (with_reducible repeat (first | apply Kd.R_alloc | apply Kd.R_drewN | apply Kd.R_drew)); exact HO_10.out⟩, ⟨by (try simp only [hl7_1]); (try simp only [hl7_2]); (try simp only [hl7_3]); (try simp only [hl7_4]); (with_reducible repeat (first | apply Kd.R_alloc | apply Kd.R_drewN | apply Kd.R_drew)); exact HO_63.out⟩, ⟨by repeat (first | (with_reducible first | exact HB.out | apply below_alloc | apply pw_below_drewN | apply below_drew1) | exact HB.out)⟩⟩
                              case round =>
                                clear H'
                                try clear c1
                                try clear p1
                                try clear q1
                                try clear hx1
                                try clear c2
                                try clear p2
                                try clear q2
                                try clear hx2
                                try clear c3
                                try clear c4
                                try clear c4b0
                                try clear c4b1
                                try clear p6
                                try clear c8
                                try clear c8b0
                                try clear c9
                                try clear c9b0
                                try clear c10
                                try clear c10b0
                                try clear p11
                                try clear q11
                                try clear hx11
                                try clear hf11
                                try clear p13
                                try clear q13
                                try clear hx13
                                try clear c14
                                try clear c14b0
                                try clear p14
                                try clear q14
                                try clear hx14
                                try clear c15
                                try clear c15b0
                                try clear c16
                                try clear c16b0
                                try clear c17
                                try clear c17b0
                                try clear c18
                                try clear c18b0
                                try clear c19
                                try clear c19b0
                                try clear c20
                                try clear c20b0
                                try clear c21
                                try clear c21b0
                                try clear c24
                                try clear p25
                                try clear q25
                                try clear hx25
                                try clear hf25
                                try clear c26
                                try clear c30
                                try clear c31
                                try clear c31b0
                                try clear c32
                                try clear c32b0
                                try clear c33
                                try clear c33b0
                                try clear hx11_0
                                try clear hx136_0
                                try clear hx137_0
                                try clear hx144_0
                                try clear hx25_0
                                try clear p1
                                try clear p11
                                try clear p13
                                try clear p136
                                try clear p137
                                try clear p144
                                try clear p2
                                try clear p25
                                try clear p6
                                try clear q1
                                try clear q11
                                try clear q13
                                try clear q136
                                try clear q137
                                try clear q144
                                try clear q2
                                try clear q25
                                obtain ⟨x7_5, x10_5, x71_5, rfl, HA, HK5, HO_7, HO_10, HO_63, HB⟩ := hrel
                                have hl7_5 := (Kd.R_reads' HO_7.out).1
                                rw [hl7_5] at HO_7
                                (try simp only [hl7_5])
                                (try simp only [hl7_5] at HO_10)
                                (try simp only [hl7_5] at HO_63)
                                cases gk with
                                | zero => exact absurd HA.out (by simp [grid_Field.l4])
                                | succ k5 =>
                                  have H := HA.out
                                  clear HA
                                  simp only [grid_Field.l4] at H
                                  by_cases c36 : x71_5 < 4
                                  · rw [if_pos c36] at H
                                    have c36b0 : decide (x71_5 < 4) = true := decide_eq_true c36
                                    clear c36
                                    by_cases c37 : 0 ≤ x71_5
                                    · rw [if_pos c37] at H
                                      have c37b0 : decide (0 ≤ x71_5) = true := decide_eq_true c37
                                      clear c37
                                      by_cases c39 : (rd [t145, t146, t147, t148] x71_5) < 0
                                      · rw [if_pos c39] at H
                                        have c39b0 : decide ((rd [t145, t146, t147, t148] x71_5) < 0) = true := decide_eq_true c39
                                        clear c39
                                        have H' := Aside0.mk H
                                        clear H
                                        have p38 : 0 ≤ (x71_5 : Int) := of_decide_eq_true (by first | (with_reducible assumption) | assumption)
                                        have q38 : x71_5 < (4 : Int) := of_decide_eq_true (by first | (with_reducible assumption) | assumption)
                                        have hx38 := fun W => index_four (P := Try.prog) Try.underlying40 Try.underlying3 rfl Try.sizeOf3 .i64 .i64 t145 t146 t147 t148 x71_5 p38 q38 W
                                        replace p38 := eq_true p38
                                        replace q38 := eq_true q38
                                        go_wp2
                                        (try simp only [← hl7_5])
                                        (first | (go_step3; refine (show (0 : Nat) = 0 ∧ K_ _ _ from ⟨rfl, ?_⟩); refine hK_ _ _ (Handed.intro k5 ?measure (hJ_ _ _ _ ?_)); rotate_left; (repeat apply Exists.intro); refine ⟨?rel, rfl⟩) | go_roundg k5)
                                        case measure => have := HK1.out; have := HK2.out; have := HK3.out; have := HK4.out; have := HK5.out; omega
                                        case rel => exact ⟨(x7_5), (x10_5), (wrap64 (x71_5 + 1)), (by first | rfl | (simp; done) | (simp [*]; done)), H', ⟨by have := HK1.out; have := HK2.out; have := HK3.out; have := HK4.out; have := HK5.out; omega⟩, ⟨by (try simp only [hl7_1]); (try simp only [hl7_2]); (try simp only [hl7_3]); (try simp only [hl7_4]); (try simp only [hl7_5]); (with_reducible repeat (first | apply Kd.R_alloc | apply Kd.R_drewN | apply Kd.R_drew)); exact HO_7.out⟩, ⟨by (try simp only [hl7_1]); (try simp only [hl7_2]); (try simp only [hl7_3]); (try simp only [hl7_4]); (try simp only [hl7_5]); (with_reducible repeat (first | apply Kd.R_alloc | apply Kd.R_drewN | apply Kd.R_drew)); exact HO_10.out⟩, ⟨by (try simp only [hl7_1]); (try simp only [hl7_2]); (try simp only [hl7_3]); (try simp only [hl7_4]); (try simp only [hl7_5]); (with_reducible repeat (first | apply Kd.R_alloc | apply Kd.R_drewN | apply Kd.R_drew)); exact HO_63.out⟩, ⟨by repeat (first | (with_reducible first | exact HB.out | apply below_alloc | apply pw_below_drewN | apply below_drew1) | exact HB.out)⟩⟩
                                      · rw [if_neg c39] at H
                                        have c39b0 : decide ((rd [t145, t146, t147, t148] x71_5) < 0) = false := decide_eq_false c39
                                        clear c39
                                        by_cases c40 : 0 ≤ (rd [t145, t146, t147, t148] x71_5)
                                        · rw [if_pos c40] at H
                                          have c40b0 : decide (0 ≤ (rd [t145, t146, t147, t148] x71_5)) = true := decide_eq_true c40
                                          clear c40
                                          by_cases c41 : (rd [t145, t146, t147, t148] x71_5) < (x7_5.length : Int)
                                          · rw [if_pos c41] at H
                                            have c41b0 : decide ((rd [t145, t146, t147, t148] x71_5) < (x7_5.length : Int)) = true := decide_eq_true c41
                                            clear c41
                                            by_cases c42 : (rd x7_5 (rd [t145, t146, t147, t148] x71_5)) ≥ 0
                                            · rw [if_pos c42] at H
                                              have c42b0 : decide (0 ≤ (rd x7_5 (rd [t145, t146, t147, t148] x71_5))) = true := decide_eq_true c42
                                              clear c42
                                              have H' := Aside0.mk H
                                              clear H
                                              have p38 : 0 ≤ (x71_5 : Int) := of_decide_eq_true (by first | (with_reducible assumption) | assumption)
                                              have q38 : x71_5 < (4 : Int) := of_decide_eq_true (by first | (with_reducible assumption) | assumption)
                                              have hx38 := fun W => index_four (P := Try.prog) Try.underlying40 Try.underlying3 rfl Try.sizeOf3 .i64 .i64 t145 t146 t147 t148 x71_5 p38 q38 W
                                              replace p38 := eq_true p38
                                              replace q38 := eq_true q38
                                              have p149 : 0 ≤ ((rd [t145, t146, t147, t148] x71_5) : Int) := of_decide_eq_true (by first | (with_reducible assumption) | assumption)
                                              have q149 : (rd [t145, t146, t147, t148] x71_5) < (x7_5.length : Int) := of_decide_eq_true (by first | (with_reducible assumption) | assumption)
                                              obtain ⟨ad149, e149, hx149_0⟩ := Kd.at_int (Kd.R_reads' HO_7.out).2.2 (rd [t145, t146, t147, t148] x71_5) p149 q149
                                              cases e149
                                              replace p149 := eq_true p149
                                              replace q149 := eq_true q149
                                              go_wp2
                                              (try simp only [← hl7_5])
                                              (first | (go_step3; refine (show (0 : Nat) = 0 ∧ K_ _ _ from ⟨rfl, ?_⟩); refine hK_ _ _ (Handed.intro k5 ?measure (hJ_ _ _ _ ?_)); rotate_left; (repeat apply Exists.intro); refine ⟨?rel, rfl⟩) | go_roundg k5)
                                              case measure => have := HK1.out; have := HK2.out; have := HK3.out; have := HK4.out; have := HK5.out; omega
                                              case rel => exact ⟨(x7_5), (x10_5), (wrap64 (x71_5 + 1)), (by first | rfl | (simp; done) | (simp [*]; done)), H', ⟨by have := HK1.out; have := HK2.out; have := HK3.out; have := HK4.out; have := HK5.out; omega⟩, ⟨by (try simp only [hl7_1]); (try simp only [hl7_2]); (try simp only [hl7_3]); (try simp only [hl7_4]); (try simp only [hl7_5]); (with_reducible repeat (first | apply Kd.R_alloc | apply Kd.R_drewN | apply Kd.R_drew)); exact HO_7.out⟩, ⟨by (try simp only [hl7_1]); (try simp only [hl7_2]); (try simp only [hl7_3]); (try simp only [hl7_4]); (try simp only [hl7_5]); (with_reducible repeat (first | apply Kd.R_alloc | apply Kd.R_drewN | apply Kd.R_drew)); exact HO_10.out⟩, ⟨by (try simp only [hl7_1]); (try simp only [hl7_2]); (try simp only [hl7_3]); (try simp only [hl7_4]); (try simp only [hl7_5]); (with_reducible repeat (first | apply Kd.R_alloc | apply Kd.R_drewN | apply Kd.R_drew)); exact HO_63.out⟩, ⟨by repeat (first | (with_reducible first | exact HB.out | apply below_alloc | apply pw_below_drewN | apply below_drew1) | exact HB.out)⟩⟩
                                            · rw [if_neg c42] at H
                                              have c42b0 : decide (0 ≤ (rd x7_5 (rd [t145, t146, t147, t148] x71_5))) = false := decide_eq_false c42
                                              clear c42
                                              replace H := Option.bind_eq_some_iff.mp H
                                              obtain ⟨t150, A430, H⟩ := H
                                              replace H : ((grid_Walk.f t150).bind fun t151 => (if t151 = true then (if (rd [t145, t146, t147, t148] x71_5) < (l1.length : Int) then (if rdOf false l1 (rd [t145, t146, t147, t148] x71_5) = true then (grid_Field.l4 k5 l0 l1 x7_5 x10_5 (wrap64 (x13_3 + 1)) x9_3 (x9_3.length : Int) x65_4 (wrap64 (x71_5 + 1)) t145 t146 t147 t148) else (if x10_5.length < 17592186044416 then (grid_Field.l4 k5 l0 l1 (x7_5.set ((rd [t145, t146, t147, t148] x71_5) : Int).toNat (wrap64 (x13_3 + 1))) (x10_5 ++ [rd [t145, t146, t147, t148] x71_5]) (wrap64 (x13_3 + 1)) x9_3 (x9_3.length : Int) x65_4 (wrap64 (x71_5 + 1)) t145 t146 t147 t148) else (none))) else (if x10_5.length < 17592186044416 then (grid_Field.l4 k5 l0 l1 (x7_5.set ((rd [t145, t146, t147, t148] x71_5) : Int).toNat (wrap64 (x13_3 + 1))) (x10_5 ++ [rd [t145, t146, t147, t148] x71_5]) (wrap64 (x13_3 + 1)) x9_3 (x9_3.length : Int) x65_4 (wrap64 (x71_5 + 1)) t145 t146 t147 t148) else (none))) else (grid_Field.l4 k5 l0 l1 x7_5 x10_5 (wrap64 (x13_3 + 1)) x9_3 (x9_3.length : Int) x65_4 (wrap64 (x71_5 + 1)) t145 t146 t147 t148))) = some r := H
                                              have A43 := Aside0.mk A430
                                              clear A430
                                              replace H := Option.bind_eq_some_iff.mp H
                                              obtain ⟨t151, A440, H⟩ := H
                                              replace H : (if t151 = true then (if (rd [t145, t146, t147, t148] x71_5) < (l1.length : Int) then (if rdOf false l1 (rd [t145, t146, t147, t148] x71_5) = true then (grid_Field.l4 k5 l0 l1 x7_5 x10_5 (wrap64 (x13_3 + 1)) x9_3 (x9_3.length : Int) x65_4 (wrap64 (x71_5 + 1)) t145 t146 t147 t148) else (if x10_5.length < 17592186044416 then (grid_Field.l4 k5 l0 l1 (x7_5.set ((rd [t145, t146, t147, t148] x71_5) : Int).toNat (wrap64 (x13_3 + 1))) (x10_5 ++ [rd [t145, t146, t147, t148] x71_5]) (wrap64 (x13_3 + 1)) x9_3 (x9_3.length : Int) x65_4 (wrap64 (x71_5 + 1)) t145 t146 t147 t148) else (none))) else (if x10_5.length < 17592186044416 then (grid_Field.l4 k5 l0 l1 (x7_5.set ((rd [t145, t146, t147, t148] x71_5) : Int).toNat (wrap64 (x13_3 + 1))) (x10_5 ++ [rd [t145, t146, t147, t148] x71_5]) (wrap64 (x13_3 + 1)) x9_3 (x9_3.length : Int) x65_4 (wrap64 (x71_5 + 1)) t145 t146 t147 t148) else (none))) else (grid_Field.l4 k5 l0 l1 x7_5 x10_5 (wrap64 (x13_3 + 1)) x9_3 (x9_3.length : Int) x65_4 (wrap64 (x71_5 + 1)) t145 t146 t147 t148)) = some r := H
                                              have A44 := Aside0.mk A440
                                              clear A440
                                              by_cases c45 : t151 = true
                                              · subst c45
                                                have H1 : (if (rd [t145, t146, t147, t148] x71_5) < (l1.length : Int) then (if rdOf false l1 (rd [t145, t146, t147, t148] x71_5) = true then (grid_Field.l4 k5 l0 l1 x7_5 x10_5 (wrap64 (x13_3 + 1)) x9_3 (x9_3.length : Int) x65_4 (wrap64 (x71_5 + 1)) t145 t146 t147 t148) else (if x10_5.length < 17592186044416 then (grid_Field.l4 k5 l0 l1 (x7_5.set ((rd [t145, t146, t147, t148] x71_5) : Int).toNat (wrap64 (x13_3 + 1))) (x10_5 ++ [rd [t145, t146, t147, t148] x71_5]) (wrap64 (x13_3 + 1)) x9_3 (x9_3.length : Int) x65_4 (wrap64 (x71_5 + 1)) t145 t146 t147 t148) else (none))) else (if x10_5.length < 17592186044416 then (grid_Field.l4 k5 l0 l1 (x7_5.set ((rd [t145, t146, t147, t148] x71_5) : Int).toNat (wrap64 (x13_3 + 1))) (x10_5 ++ [rd [t145, t146, t147, t148] x71_5]) (wrap64 (x13_3 + 1)) x9_3 (x9_3.length : Int) x65_4 (wrap64 (x71_5 + 1)) t145 t146 t147 t148) else (none))) = some r := by rw [if_pos rfl] at H; exact H
                                                clear H
                                                have H := H1
                                                clear H1
                                                by_cases c46 : (rd [t145, t146, t147, t148] x71_5) < (l1.length : Int)
                                                · rw [if_pos c46] at H
                                                  have c46b0 : decide ((rd [t145, t146, t147, t148] x71_5) < (l1.length : Int)) = true := decide_eq_true c46
                                                  clear c46
                                                  obtain ⟨bq47, hbq47⟩ : ∃ b_ : Bool, b_ = (rdOf false l1 (rd [t145, t146, t147, t148] x71_5)) := ⟨_, rfl⟩
                                                  replace H : (if bq47 = true then (grid_Field.l4 k5 l0 l1 x7_5 x10_5 (wrap64 (x13_3 + 1)) x9_3 (x9_3.length : Int) x65_4 (wrap64 (x71_5 + 1)) t145 t146 t147 t148) else (if x10_5.length < 17592186044416 then (grid_Field.l4 k5 l0 l1 (x7_5.set ((rd [t145, t146, t147, t148] x71_5) : Int).toNat (wrap64 (x13_3 + 1))) (x10_5 ++ [rd [t145, t146, t147, t148] x71_5]) (wrap64 (x13_3 + 1)) x9_3 (x9_3.length : Int) x65_4 (wrap64 (x71_5 + 1)) t145 t146 t147 t148) else (none))) = some r := by rw [← hbq47] at H; exact H
                                                  have Nbq47 := Aside0.mk hbq47
                                                  clear hbq47
                                                  by_cases c48 : bq47 = true
                                                  · subst c48
                                                    have H1 : (grid_Field.l4 k5 l0 l1 x7_5 x10_5 (wrap64 (x13_3 + 1)) x9_3 (x9_3.length : Int) x65_4 (wrap64 (x71_5 + 1)) t145 t146 t147 t148) = some r := by rw [if_pos rfl] at H; exact H
                                                    clear H
                                                    have H := H1
                                                    clear H1
                                                    have H' := Aside0.mk H
                                                    clear H
                                                    have p38 : 0 ≤ (x71_5 : Int) := of_decide_eq_true (by first | (with_reducible assumption) | assumption)
                                                    have q38 : x71_5 < (4 : Int) := of_decide_eq_true (by first | (with_reducible assumption) | assumption)
                                                    have hx38 := fun W => index_four (P := Try.prog) Try.underlying40 Try.underlying3 rfl Try.sizeOf3 .i64 .i64 t145 t146 t147 t148 x71_5 p38 q38 W
                                                    replace p38 := eq_true p38
                                                    replace q38 := eq_true q38
                                                    have p149 : 0 ≤ ((rd [t145, t146, t147, t148] x71_5) : Int) := of_decide_eq_true (by first | (with_reducible assumption) | assumption)
                                                    have q149 : (rd [t145, t146, t147, t148] x71_5) < (x7_5.length : Int) := of_decide_eq_true (by first | (with_reducible assumption) | assumption)
                                                    obtain ⟨ad149, e149, hx149_0⟩ := Kd.at_int (Kd.R_reads' HO_7.out).2.2 (rd [t145, t146, t147, t148] x71_5) p149 q149
                                                    cases e149
                                                    replace p149 := eq_true p149
                                                    replace q149 := eq_true q149
                                                    go_wp2_with (first | (go_at_call 26; (with_reducible refine (grid_kind.calls _ _ l0 (rd [t145, t146, t147, t148] x71_5) t150 _ ?side1 ?side2 A43.out).mono ?_); (case side1 => repeat (first | exact (Kd.C_below HR0.out HB.out) | (with_reducible refine Kd.C_alloc ?_ _) | (with_reducible refine Kd.C_drewN ?_ _) | (with_reducible refine Kd.C_drew ?_))); (case side2 => exact HC0.out); rintro e w' ⟨rfl, ⟨nd, rfl⟩⟩) | (go_at_call 29; (with_reducible refine (grid_Walk.calls t150 true _ A44.out).mono ?_); rintro e w' ⟨rfl, ⟨nd, rfl⟩⟩; have p152 : 0 ≤ ((rd [t145, t146, t147, t148] x71_5) : Int) := of_decide_eq_true (by first | (with_reducible assumption) | assumption); have q152 : (rd [t145, t146, t147, t148] x71_5) < (l1.length : Int) := of_decide_eq_true (by first | (with_reducible assumption) | assumption); obtain ⟨ad152, e152, hx152_0⟩ := Kd.at_bool HR1.out (rd [t145, t146, t147, t148] x71_5) p152 q152; (try rw [← Nbq47.out] at hx152_0); cases e152; replace hx152_0 := (HB.out.cell (World.block_lt_of_cell? w _ hx152_0)).trans hx152_0; replace p152 := eq_true p152; replace q152 := eq_true q152))
                                                    (try simp only [← hl7_5])
                                                    (first | (go_step3; refine (show (0 : Nat) = 0 ∧ K_ _ _ from ⟨rfl, ?_⟩); refine hK_ _ _ (Handed.intro k5 ?measure (hJ_ _ _ _ ?_)); rotate_left; (repeat apply Exists.intro); refine ⟨?rel, rfl⟩) | go_roundg k5)
                                                    case measure => have := HK1.out; have := HK2.out; have := HK3.out; have := HK4.out; have := HK5.out; omega
                                                    case rel => exact ⟨(x7_5), (x10_5), (wrap64 (x71_5 + 1)), (by first | rfl | (simp; done) | (simp [*]; done)), H', ⟨by have := HK1.out; have := HK2.out; have := HK3.out; have := HK4.out; have := HK5.out; omega⟩, ⟨by (try simp only [hl7_1]); (try simp only [hl7_2]); (try simp only [hl7_3]); (try simp only [hl7_4]); (try simp only [hl7_5]); (with_reducible repeat (first | apply Kd.R_alloc | apply Kd.R_drewN | apply Kd.R_drew)); exact HO_7.out⟩, ⟨by (try simp only [hl7_1]); (try simp only [hl7_2]); (try simp only [hl7_3]); (try simp only [hl7_4]); (try simp only [hl7_5]); (with_reducible repeat (first | apply Kd.R_alloc | apply Kd.R_drewN | apply Kd.R_drew)); exact HO_10.out⟩, ⟨by (try simp only [hl7_1]); (try simp only [hl7_2]); (try simp only [hl7_3]); (try simp only [hl7_4]); (try simp only [hl7_5]); (with_reducible repeat (first | apply Kd.R_alloc | apply Kd.R_drewN | apply Kd.R_drew)); exact HO_63.out⟩, ⟨by repeat (first | (with_reducible first | exact HB.out | apply below_alloc | apply pw_below_drewN | apply below_drew1) | exact HB.out)⟩⟩
                                                  · replace c48 := Bool.eq_false_iff.mpr c48
                                                    subst c48
                                                    have H1 : (if x10_5.length < 17592186044416 then (grid_Field.l4 k5 l0 l1 (x7_5.set ((rd [t145, t146, t147, t148] x71_5) : Int).toNat (wrap64 (x13_3 + 1))) (x10_5 ++ [rd [t145, t146, t147, t148] x71_5]) (wrap64 (x13_3 + 1)) x9_3 (x9_3.length : Int) x65_4 (wrap64 (x71_5 + 1)) t145 t146 t147 t148) else (none)) = some r := by rw [if_neg (show ¬ (false = true) by decide)] at H; exact H
                                                    clear H
                                                    have H := H1
                                                    clear H1
                                                    obtain ⟨y153, hy153⟩ : ∃ y_ : List Int, y_ = (x7_5.set ((rd [t145, t146, t147, t148] x71_5) : Int).toNat (wrap64 (x13_3 + 1))) := ⟨_, rfl⟩
                                                    replace H : (if x10_5.length < 17592186044416 then (grid_Field.l4 k5 l0 l1 y153 (x10_5 ++ [rd [t145, t146, t147, t148] x71_5]) (wrap64 (x13_3 + 1)) x9_3 (x9_3.length : Int) x65_4 (wrap64 (x71_5 + 1)) t145 t146 t147 t148) else (none)) = some r := by first | (rw [hy153]; with_reducible exact H) | (have H2_ := (Option.bind_some _ _).symm.trans H; rw [hy153]; with_reducible exact H2_) | (have H2_ := (Option.bind_some _ _).symm.trans H; with_reducible exact H2_) | with_reducible exact H | (rw [hy153]; exact H) | exact H
                                                    have Ny153 := Aside0.mk hy153
                                                    clear hy153
                                                    by_cases c50 : x10_5.length < 17592186044416
                                                    · rw [if_pos c50] at H
                                                      have LMc50 := Aside0.mk c50
                                                      clear c50
                                                      obtain ⟨y154, hy154⟩ : ∃ y_ : List Int, y_ = (x10_5 ++ [rd [t145, t146, t147, t148] x71_5]) := ⟨_, rfl⟩
                                                      replace H : (grid_Field.l4 k5 l0 l1 y153 y154 (wrap64 (x13_3 + 1)) x9_3 (x9_3.length : Int) x65_4 (wrap64 (x71_5 + 1)) t145 t146 t147 t148) = some r := by first | (rw [hy154]; with_reducible exact H) | (have H2_ := (Option.bind_some _ _).symm.trans H; rw [hy154]; with_reducible exact H2_) | (have H2_ := (Option.bind_some _ _).symm.trans H; with_reducible exact H2_) | with_reducible exact H | (rw [hy154]; exact H) | exact H
                                                      have Ny154 := Aside0.mk hy154
                                                      clear hy154
                                                      have H' := Aside0.mk H
                                                      clear H
                                                      have p38 : 0 ≤ (x71_5 : Int) := of_decide_eq_true (by first | (with_reducible assumption) | assumption)
                                                      have q38 : x71_5 < (4 : Int) := of_decide_eq_true (by first | (with_reducible assumption) | assumption)
                                                      have hx38 := fun W => index_four (P := Try.prog) Try.underlying40 Try.underlying3 rfl Try.sizeOf3 .i64 .i64 t145 t146 t147 t148 x71_5 p38 q38 W
                                                      replace p38 := eq_true p38
                                                      replace q38 := eq_true q38
                                                      have p149 : 0 ≤ ((rd [t145, t146, t147, t148] x71_5) : Int) := of_decide_eq_true (by first | (with_reducible assumption) | assumption)
                                                      have q149 : (rd [t145, t146, t147, t148] x71_5) < (x7_5.length : Int) := of_decide_eq_true (by first | (with_reducible assumption) | assumption)
                                                      obtain ⟨ad149, e149, hx149_0⟩ := Kd.at_int (Kd.R_reads' HO_7.out).2.2 (rd [t145, t146, t147, t148] x71_5) p149 q149
                                                      cases e149
                                                      replace p149 := eq_true p149
                                                      replace q149 := eq_true q149
                                                      go_wp2_with (first | (go_at_call 26; (with_reducible refine (grid_kind.calls _ _ l0 (rd [t145, t146, t147, t148] x71_5) t150 _ ?side1 ?side2 A43.out).mono ?_); (case side1 => repeat (first | exact (Kd.C_below HR0.out HB.out) | (with_reducible refine Kd.C_alloc ?_ _) | (with_reducible refine Kd.C_drewN ?_ _) | (with_reducible refine Kd.C_drew ?_))); (case side2 => exact HC0.out); rintro e w' ⟨rfl, ⟨nd, rfl⟩⟩; (try (rw [drewN_self wr]; generalize hq_ : World.drewN wr _ = wr; have n0_ : Aside0 (Kd.R (Kd.int .i64) 3 wr w.heap.size (fun k_ => some k_ ≠ (.slice (some ad144) x9_3.length co30 : Value).ownBlock ∧ some k_ ≠ (.slice (some ad149) x7_5.length co7 : Value).ownBlock) u10 x10_5) := ⟨by rw [← hq_]; exact (by (with_reducible repeat (first | apply Kd.R_alloc | apply Kd.R_drewN | apply Kd.R_drew)); exact Kd.R_mono HO_10.out (fun _ hk => by first | exact ⟨hk.2, hk.1⟩ | exact hk))⟩; have n1_ : Aside0 (Kd.R (Kd.int .i64) 3 wr w.heap.size (fun k_ => some k_ ≠ (u10 : Value).ownBlock ∧ some k_ ≠ (.slice (some ad149) x7_5.length co7 : Value).ownBlock) (.slice (some ad144) x9_3.length co30) x9_3) := ⟨by rw [← hq_]; exact (by (with_reducible repeat (first | apply Kd.R_alloc | apply Kd.R_drewN | apply Kd.R_drew)); exact Kd.R_mono HO_63.out (fun _ hk => by first | exact ⟨hk.2, hk.1⟩ | exact hk))⟩; have n2_ : Aside0 (Kd.R (Kd.int .i64) 3 wr w.heap.size (fun k_ => some k_ ≠ (u10 : Value).ownBlock ∧ some k_ ≠ (.slice (some ad144) x9_3.length co30 : Value).ownBlock) (.slice (some ad149) x7_5.length co7) x7_5) := ⟨by rw [← hq_]; exact (by (with_reducible repeat (first | apply Kd.R_alloc | apply Kd.R_drewN | apply Kd.R_drew)); exact HO_7.out)⟩; have n3_ : Aside0 (Below w.heap.size w wr) := ⟨by rw [← hq_]; exact (by repeat (first | (with_reducible first | exact HB.out | apply below_alloc | apply pw_below_drewN | apply below_drew1) | exact HB.out))⟩; clear HO_10 HO_63 HO_7 HB hq_; have HO_10 := n0_; have HO_63 := n1_; have HO_7 := n2_; have HB := n3_; clear n0_ n1_ n2_ n3_))) | (go_at_call 29; (with_reducible refine (grid_Walk.calls t150 true _ A44.out).mono ?_); rintro e w' ⟨rfl, ⟨nd, rfl⟩⟩; (try (rw [drewN_self wr]; generalize hq_ : World.drewN wr _ = wr; have n0_ : Aside0 (Kd.R (Kd.int .i64) 3 wr w.heap.size (fun k_ => some k_ ≠ (.slice (some ad144) x9_3.length co30 : Value).ownBlock ∧ some k_ ≠ (.slice (some ad149) x7_5.length co7 : Value).ownBlock) u10 x10_5) := ⟨by rw [← hq_]; exact (by (with_reducible repeat (first | apply Kd.R_alloc | apply Kd.R_drewN | apply Kd.R_drew)); exact Kd.R_mono HO_10.out (fun _ hk => by first | exact ⟨hk.2, hk.1⟩ | exact hk))⟩; have n1_ : Aside0 (Kd.R (Kd.int .i64) 3 wr w.heap.size (fun k_ => some k_ ≠ (u10 : Value).ownBlock ∧ some k_ ≠ (.slice (some ad149) x7_5.length co7 : Value).ownBlock) (.slice (some ad144) x9_3.length co30) x9_3) := ⟨by rw [← hq_]; exact (by (with_reducible repeat (first | apply Kd.R_alloc | apply Kd.R_drewN | apply Kd.R_drew)); exact Kd.R_mono HO_63.out (fun _ hk => by first | exact ⟨hk.2, hk.1⟩ | exact hk))⟩; have n2_ : Aside0 (Kd.R (Kd.int .i64) 3 wr w.heap.size (fun k_ => some k_ ≠ (u10 : Value).ownBlock ∧ some k_ ≠ (.slice (some ad144) x9_3.length co30 : Value).ownBlock) (.slice (some ad149) x7_5.length co7) x7_5) := ⟨by rw [← hq_]; exact (by (with_reducible repeat (first | apply Kd.R_alloc | apply Kd.R_drewN | apply Kd.R_drew)); exact HO_7.out)⟩; have n3_ : Aside0 (Below w.heap.size w wr) := ⟨by rw [← hq_]; exact (by repeat (first | (with_reducible first | exact HB.out | apply below_alloc | apply pw_below_drewN | apply below_drew1) | exact HB.out))⟩; clear HO_10 HO_63 HO_7 HB hq_; have HO_10 := n0_; have HO_63 := n1_; have HO_7 := n2_; have HB := n3_; clear n0_ n1_ n2_ n3_)); have p152 : 0 ≤ ((rd [t145, t146, t147, t148] x71_5) : Int) := of_decide_eq_true (by first | (with_reducible assumption) | assumption); have q152 : (rd [t145, t146, t147, t148] x71_5) < (l1.length : Int) := of_decide_eq_true (by first | (with_reducible assumption) | assumption); obtain ⟨ad152, e152, hx152_0⟩ := Kd.at_bool HR1.out (rd [t145, t146, t147, t148] x71_5) p152 q152; (try rw [← Nbq47.out] at hx152_0); cases e152; replace hx152_0 := (HB.out.cell (World.block_lt_of_cell? w _ hx152_0)).trans hx152_0; replace p152 := eq_true p152; replace q152 := eq_true q152; have p49 : 0 ≤ ((rd [t145, t146, t147, t148] x71_5) : Int) := of_decide_eq_true (by first | (with_reducible assumption) | assumption); have q49 : ((rd [t145, t146, t147, t148] x71_5) : Int) < ((x7_5.length : Int) : Int) := of_decide_eq_true (by first | (with_reducible assumption) | assumption); obtain ⟨go49, co49, eo49, gb49, gl49, cl49, HG49⟩ := Kd.R_form HO_7.out (by omega); (first | cases eo49 | (injection eo49 with ea_ en_ ec_; (first | subst ea_ | (injection ea_ with ea_; subst ea_)); subst ec_; clear en_)); have GB49 := Aside0.mk gb49; have GG49 := Aside0.mk HG49; clear gb49 gl49 HG49; (first | simp only [add_plain] at hx149_0 | skip); obtain ⟨hx49_0, hf49_0⟩ := Kd.R_celln 0 HO_7.out ((rd [t145, t146, t147, t148] x71_5) : Int) p49 q49; replace p49 := eq_true p49; replace q49 := eq_true q49; obtain ⟨hy51_, hz51_⟩ := Kd.R_celln 0 HO_7.out ((rd [t145, t146, t147, t148] x71_5) : Int) (of_decide_eq_true (by first | (with_reducible assumption) | assumption)) (of_decide_eq_true (by first | (with_reducible assumption) | assumption)); have HP51 := Kd.R_putg HO_7.out ((rd [t145, t146, t147, t148] x71_5) : Int) (wrap64 (x13_3 + 1))) | ((with_reducible refine gate_store (t := 3) (p := 105) rfl ?_); refine store_event (t := 3) (p := 105) (v := ?vo_w52) (w1 := (wr.setCell ⟨go49, ((rd [t145, t146, t147, t148] x71_5) : Int).toNat, none⟩ (.int .i64 (wrap64 (x13_3 + 1))))) ?hg ?ho ?hn ?hr ?_; (case ho => rfl); (case hg => rfl); (case hn => rfl); (case hr => first | (go_simp; done) | (go_simp; rfl)); intro w52 hw; have hg : wr.grownBy w52 (some go49) := (by rw [hw]; exact HP51.2); have hp_ : Kd.R (Kd.int .i64) 3 w52 w.heap.size (fun k_ => some k_ ≠ (u10 : Value).ownBlock ∧ some k_ ≠ (.slice (some ad144) x9_3.length co30 : Value).ownBlock) (.slice (some ⟨go49, 0, none⟩) x7_5.length co7) y153 := (by rw [hw, Ny153.out]; exact HP51.1); clear HP51; have n0_ := Aside0.mk (hp_); have n1_ := Aside0.mk (Kd.R_after (v := (.slice (some ⟨go49, 0, none⟩) x7_5.length co7)) (v1 := (.slice (some ⟨go49, 0, none⟩) x7_5.length co7)) (ok := (fun k_ => some k_ ≠ (.slice (some ad144) x9_3.length co30 : Value).ownBlock)) (by (with_reducible repeat (first | apply Kd.R_alloc | apply Kd.R_drewN | apply Kd.R_drew)); exact Kd.R_mono HO_10.out (fun _ hk => by first | exact ⟨hk.2, hk.1⟩ | exact hk)) hg (.inl rfl)); have n2_ := Aside0.mk (Kd.R_after (v := (.slice (some ⟨go49, 0, none⟩) x7_5.length co7)) (v1 := (.slice (some ⟨go49, 0, none⟩) x7_5.length co7)) (ok := (fun k_ => some k_ ≠ (u10 : Value).ownBlock)) (by (with_reducible repeat (first | apply Kd.R_alloc | apply Kd.R_drewN | apply Kd.R_drew)); exact Kd.R_mono HO_63.out (fun _ hk => by first | exact ⟨hk.2, hk.1⟩ | exact hk)) hg (.inl rfl)); have n3_ := Aside0.mk ((by rw [hw]; exact below_set (HB.out) GB49.out : Below w.heap.size w w52)); clear HO_7; clear HO_10; clear HO_63; clear HB; have HO_7 := n0_; have HO_10 := n1_; have HO_63 := n2_; have HB := n3_; clear n0_ n1_ n2_ n3_; clear hg hw hp_) | ((with_reducible refine gate_builtin (b := .append) (xs := #[.tmp 106, .tmp 108]) rfl ?_); (try (refine gate_guard (by rfl) ?_; dsimp only)); at_builtin; refine Kd.R_append (Kd.int .i64) (w0 := w) w.heap.size rfl (.tmp 106) (.tmp 108) 24 3 (.int .i64 0) 8 rfl Try.underlying24 info3 rfl (by decide) (by omega) u10 x10_5 (rd [t145, t146, t147, t148] x71_5) [.int .i64 (rd [t145, t146, t147, t148] x71_5)] (fun k_ => some k_ ≠ (.slice (some ⟨go49, 0, none⟩) x7_5.length co7 : Value).ownBlock ∧ some k_ ≠ (.slice (some ad144) x9_3.length co30 : Value).ownBlock) (fun _ => False) rfl rfl ?aP (fun _ hk => hk.elim) ?aF ?aO ?aB ?aS ?aL ?_; (case aP => exact rfl); (case aB => exact (by repeat (first | (with_reducible first | exact HB.out | apply below_alloc | apply pw_below_drewN | apply below_drew1) | exact HB.out))); (case aF => exact (fun k_ hk => ⟨Kd.fresh' (Kd.R_lt (by (with_reducible repeat (first | apply Kd.R_alloc | apply Kd.R_drewN | apply Kd.R_drew)); exact HO_7.out)) k_ hk, Kd.fresh' (Kd.R_lt (by (with_reducible repeat (first | apply Kd.R_alloc | apply Kd.R_drewN | apply Kd.R_drew)); exact HO_63.out)) k_ hk⟩)); (case aO => exact (by (with_reducible repeat (first | apply Kd.R_alloc | apply Kd.R_drewN | apply Kd.R_drew)); exact Kd.R_mono HO_10.out (fun _ hk => by first | exact ⟨hk.2, hk.1⟩ | exact hk))); (case aS => exact (below_size (by repeat (first | (with_reducible first | exact HB.out | apply below_alloc | apply pw_below_drewN | apply below_drew1) | exact HB.out)))); (case aL => have := LMc50.out; omega); intro v155 w53 ho hb hg hat; rw [← Ny154.out] at ho; have n0_ := Aside0.mk (Kd.R_after (ok := (fun k_ => some k_ ≠ (.slice (some ad144) x9_3.length co30 : Value).ownBlock)) (by (with_reducible repeat (first | apply Kd.R_alloc | apply Kd.R_drewN | apply Kd.R_drew)); exact Kd.R_mono HO_7.out (fun _ hk => by first | exact ⟨hk.2, hk.1⟩ | exact hk)) hg hat); have n1_ := Aside0.mk (Kd.R_after (ok := (fun k_ => some k_ ≠ (.slice (some ⟨go49, 0, none⟩) x7_5.length co7 : Value).ownBlock)) (by (with_reducible repeat (first | apply Kd.R_alloc | apply Kd.R_drewN | apply Kd.R_drew)); exact Kd.R_mono HO_63.out (fun _ hk => by first | exact ⟨hk.2, hk.1⟩ | exact hk)) hg hat); have n2_ := Aside0.mk (hb); have n3_ := Aside0.mk (ho); clear HO_7; clear HO_63; clear HB; clear HO_10; have HO_7 := n0_; have HO_63 := n1_; have HB := n2_; have HO156 := n3_; clear n0_ n1_ n2_ n3_; clear ho hb hg hat))
                                                      (try simp only [← hl7_5])
                                                      (first | (go_step3; refine (show (0 : Nat) = 0 ∧ K_ _ _ from ⟨rfl, ?_⟩); refine hK_ _ _ (Handed.intro k5 ?measure (hJ_ _ _ _ ?_)); rotate_left; (repeat apply Exists.intro); refine ⟨?rel, rfl⟩) | go_roundg k5)
                                                      case measure => have := HK1.out; have := HK2.out; have := HK3.out; have := HK4.out; have := HK5.out; omega
                                                      case rel => exact ⟨(y153), (y154), (wrap64 (x71_5 + 1)), (by first | rfl | (simp; done) | (simp [*]; done)), H', ⟨by have := HK1.out; have := HK2.out; have := HK3.out; have := HK4.out; have := HK5.out; omega⟩, ⟨by (try simp only [hl7_1]); (try simp only [hl7_2]); (try simp only [hl7_3]); (try simp only [hl7_4]); (try simp only [hl7_5]); (with_reducible repeat (first | apply Kd.R_alloc | apply Kd.R_drewN | apply Kd.R_drew)); exact Kd.R_mono HO_7.out (fun _ hk => by first | exact ⟨hk.2, hk.1⟩ | exact hk)⟩, ⟨by (try simp only [hl7_1]); (try simp only [hl7_2]); (try simp only [hl7_3]); (try simp only [hl7_4]); (try simp only [hl7_5]); (with_reducible repeat (first | apply Kd.R_alloc | apply Kd.R_drewN | apply Kd.R_drew)); exact HO156.out⟩, ⟨by (try simp only [hl7_1]); (try simp only [hl7_2]); (try simp only [hl7_3]); (try simp only [hl7_4]); (try simp only [hl7_5]); (with_reducible repeat (first | apply Kd.R_alloc | apply Kd.R_drewN | apply Kd.R_drew)); exact HO_63.out⟩, ⟨by repeat (first | (with_reducible first | exact HB.out | apply below_alloc | apply pw_below_drewN | apply below_drew1) | exact HB.out)⟩⟩
                                                    · rw [if_neg c50] at H
                                                      exact absurd H (by simp)
                                                · rw [if_neg c46] at H
                                                  have c46b0 : decide ((rd [t145, t146, t147, t148] x71_5) < (l1.length : Int)) = false := decide_eq_false c46
                                                  (try simp only [hl7_1] at c46b0)
                                                  (try simp only [hl7_2] at c46b0)
                                                  (try simp only [hl7_3] at c46b0)
                                                  (try simp only [hl7_4] at c46b0)
                                                  (try simp only [hl7_5] at c46b0)
                                                  clear c46
                                                  obtain ⟨y157, hy157⟩ : ∃ y_ : List Int, y_ = (x7_5.set ((rd [t145, t146, t147, t148] x71_5) : Int).toNat (wrap64 (x13_3 + 1))) := ⟨_, rfl⟩
                                                  replace H : (if x10_5.length < 17592186044416 then (grid_Field.l4 k5 l0 l1 y157 (x10_5 ++ [rd [t145, t146, t147, t148] x71_5]) (wrap64 (x13_3 + 1)) x9_3 (x9_3.length : Int) x65_4 (wrap64 (x71_5 + 1)) t145 t146 t147 t148) else (none)) = some r := by first | (rw [hy157]; with_reducible exact H) | (have H2_ := (Option.bind_some _ _).symm.trans H; rw [hy157]; with_reducible exact H2_) | (have H2_ := (Option.bind_some _ _).symm.trans H; with_reducible exact H2_) | with_reducible exact H | (rw [hy157]; exact H) | exact H
                                                  have Ny157 := Aside0.mk hy157
                                                  clear hy157
                                                  by_cases c55 : x10_5.length < 17592186044416
                                                  · rw [if_pos c55] at H
                                                    have LMc55 := Aside0.mk c55
                                                    clear c55
                                                    obtain ⟨y158, hy158⟩ : ∃ y_ : List Int, y_ = (x10_5 ++ [rd [t145, t146, t147, t148] x71_5]) := ⟨_, rfl⟩
                                                    replace H : (grid_Field.l4 k5 l0 l1 y157 y158 (wrap64 (x13_3 + 1)) x9_3 (x9_3.length : Int) x65_4 (wrap64 (x71_5 + 1)) t145 t146 t147 t148) = some r := by first | (rw [hy158]; with_reducible exact H) | (have H2_ := (Option.bind_some _ _).symm.trans H; rw [hy158]; with_reducible exact H2_) | (have H2_ := (Option.bind_some _ _).symm.trans H; with_reducible exact H2_) | with_reducible exact H | (rw [hy158]; exact H) | exact H
                                                    have Ny158 := Aside0.mk hy158
                                                    clear hy158
                                                    have H' := Aside0.mk H
                                                    clear H
                                                    have p38 : 0 ≤ (x71_5 : Int) := of_decide_eq_true (by first | (with_reducible assumption) | assumption)
                                                    have q38 : x71_5 < (4 : Int) := of_decide_eq_true (by first | (with_reducible assumption) | assumption)
                                                    have hx38 := fun W => index_four (P := Try.prog) Try.underlying40 Try.underlying3 rfl Try.sizeOf3 .i64 .i64 t145 t146 t147 t148 x71_5 p38 q38 W
                                                    replace p38 := eq_true p38
                                                    replace q38 := eq_true q38
                                                    have p149 : 0 ≤ ((rd [t145, t146, t147, t148] x71_5) : Int) := of_decide_eq_true (by first | (with_reducible assumption) | assumption)
                                                    have q149 : (rd [t145, t146, t147, t148] x71_5) < (x7_5.length : Int) := of_decide_eq_true (by first | (with_reducible assumption) | assumption)
                                                    obtain ⟨ad149, e149, hx149_0⟩ := Kd.at_int (Kd.R_reads' HO_7.out).2.2 (rd [t145, t146, t147, t148] x71_5) p149 q149
                                                    cases e149
                                                    replace p149 := eq_true p149
                                                    replace q149 := eq_true q149
                                                    go_wp2_with (first | (go_at_call 26; (with_reducible refine (grid_kind.calls _ _ l0 (rd [t145, t146, t147, t148] x71_5) t150 _ ?side1 ?side2 A43.out).mono ?_); (case side1 => repeat (first | exact (Kd.C_below HR0.out HB.out) | (with_reducible refine Kd.C_alloc ?_ _) | (with_reducible refine Kd.C_drewN ?_ _) | (with_reducible refine Kd.C_drew ?_))); (case side2 => exact HC0.out); rintro e w' ⟨rfl, ⟨nd, rfl⟩⟩; (try (rw [drewN_self wr]; generalize hq_ : World.drewN wr _ = wr; have n0_ : Aside0 (Kd.R (Kd.int .i64) 3 wr w.heap.size (fun k_ => some k_ ≠ (.slice (some ad144) x9_3.length co30 : Value).ownBlock ∧ some k_ ≠ (.slice (some ad149) x7_5.length co7 : Value).ownBlock) u10 x10_5) := ⟨by rw [← hq_]; exact (by (with_reducible repeat (first | apply Kd.R_alloc | apply Kd.R_drewN | apply Kd.R_drew)); exact Kd.R_mono HO_10.out (fun _ hk => by first | exact ⟨hk.2, hk.1⟩ | exact hk))⟩; have n1_ : Aside0 (Kd.R (Kd.int .i64) 3 wr w.heap.size (fun k_ => some k_ ≠ (u10 : Value).ownBlock ∧ some k_ ≠ (.slice (some ad149) x7_5.length co7 : Value).ownBlock) (.slice (some ad144) x9_3.length co30) x9_3) := ⟨by rw [← hq_]; exact (by (with_reducible repeat (first | apply Kd.R_alloc | apply Kd.R_drewN | apply Kd.R_drew)); exact Kd.R_mono HO_63.out (fun _ hk => by first | exact ⟨hk.2, hk.1⟩ | exact hk))⟩; have n2_ : Aside0 (Kd.R (Kd.int .i64) 3 wr w.heap.size (fun k_ => some k_ ≠ (u10 : Value).ownBlock ∧ some k_ ≠ (.slice (some ad144) x9_3.length co30 : Value).ownBlock) (.slice (some ad149) x7_5.length co7) x7_5) := ⟨by rw [← hq_]; exact (by (with_reducible repeat (first | apply Kd.R_alloc | apply Kd.R_drewN | apply Kd.R_drew)); exact HO_7.out)⟩; have n3_ : Aside0 (Below w.heap.size w wr) := ⟨by rw [← hq_]; exact (by repeat (first | (with_reducible first | exact HB.out | apply below_alloc | apply pw_below_drewN | apply below_drew1) | exact HB.out))⟩; clear HO_10 HO_63 HO_7 HB hq_; have HO_10 := n0_; have HO_63 := n1_; have HO_7 := n2_; have HB := n3_; clear n0_ n1_ n2_ n3_))) | (go_at_call 29; (with_reducible refine (grid_Walk.calls t150 true _ A44.out).mono ?_); rintro e w' ⟨rfl, ⟨nd, rfl⟩⟩; (try (rw [drewN_self wr]; generalize hq_ : World.drewN wr _ = wr; have n0_ : Aside0 (Kd.R (Kd.int .i64) 3 wr w.heap.size (fun k_ => some k_ ≠ (.slice (some ad144) x9_3.length co30 : Value).ownBlock ∧ some k_ ≠ (.slice (some ad149) x7_5.length co7 : Value).ownBlock) u10 x10_5) := ⟨by rw [← hq_]; exact (by (with_reducible repeat (first | apply Kd.R_alloc | apply Kd.R_drewN | apply Kd.R_drew)); exact Kd.R_mono HO_10.out (fun _ hk => by first | exact ⟨hk.2, hk.1⟩ | exact hk))⟩; have n1_ : Aside0 (Kd.R (Kd.int .i64) 3 wr w.heap.size (fun k_ => some k_ ≠ (u10 : Value).ownBlock ∧ some k_ ≠ (.slice (some ad149) x7_5.length co7 : Value).ownBlock) (.slice (some ad144) x9_3.length co30) x9_3) := ⟨by rw [← hq_]; exact (by (with_reducible repeat (first | apply Kd.R_alloc | apply Kd.R_drewN | apply Kd.R_drew)); exact Kd.R_mono HO_63.out (fun _ hk => by first | exact ⟨hk.2, hk.1⟩ | exact hk))⟩; have n2_ : Aside0 (Kd.R (Kd.int .i64) 3 wr w.heap.size (fun k_ => some k_ ≠ (u10 : Value).ownBlock ∧ some k_ ≠ (.slice (some ad144) x9_3.length co30 : Value).ownBlock) (.slice (some ad149) x7_5.length co7) x7_5) := ⟨by rw [← hq_]; exact (by (with_reducible repeat (first | apply Kd.R_alloc | apply Kd.R_drewN | apply Kd.R_drew)); exact HO_7.out)⟩; have n3_ : Aside0 (Below w.heap.size w wr) := ⟨by rw [← hq_]; exact (by repeat (first | (with_reducible first | exact HB.out | apply below_alloc | apply pw_below_drewN | apply below_drew1) | exact HB.out))⟩; clear HO_10 HO_63 HO_7 HB hq_; have HO_10 := n0_; have HO_63 := n1_; have HO_7 := n2_; have HB := n3_; clear n0_ n1_ n2_ n3_)); have p54 : 0 ≤ ((rd [t145, t146, t147, t148] x71_5) : Int) := of_decide_eq_true (by first | (with_reducible assumption) | assumption); have q54 : ((rd [t145, t146, t147, t148] x71_5) : Int) < ((x7_5.length : Int) : Int) := of_decide_eq_true (by first | (with_reducible assumption) | assumption); obtain ⟨go54, co54, eo54, gb54, gl54, cl54, HG54⟩ := Kd.R_form HO_7.out (by omega); (first | cases eo54 | (injection eo54 with ea_ en_ ec_; (first | subst ea_ | (injection ea_ with ea_; subst ea_)); subst ec_; clear en_)); have GB54 := Aside0.mk gb54; have GG54 := Aside0.mk HG54; clear gb54 gl54 HG54; (first | simp only [add_plain] at hx149_0 | skip); obtain ⟨hx54_0, hf54_0⟩ := Kd.R_celln 0 HO_7.out ((rd [t145, t146, t147, t148] x71_5) : Int) p54 q54; replace p54 := eq_true p54; replace q54 := eq_true q54; obtain ⟨hy56_, hz56_⟩ := Kd.R_celln 0 HO_7.out ((rd [t145, t146, t147, t148] x71_5) : Int) (of_decide_eq_true (by first | (with_reducible assumption) | assumption)) (of_decide_eq_true (by first | (with_reducible assumption) | assumption)); have HP56 := Kd.R_putg HO_7.out ((rd [t145, t146, t147, t148] x71_5) : Int) (wrap64 (x13_3 + 1))) | ((with_reducible refine gate_store (t := 3) (p := 105) rfl ?_); refine store_event (t := 3) (p := 105) (v := ?vo_w57) (w1 := (wr.setCell ⟨go54, ((rd [t145, t146, t147, t148] x71_5) : Int).toNat, none⟩ (.int .i64 (wrap64 (x13_3 + 1))))) ?hg ?ho ?hn ?hr ?_; (case ho => rfl); (case hg => rfl); (case hn => rfl); (case hr => first | (go_simp; done) | (go_simp; rfl)); intro w57 hw; have hg : wr.grownBy w57 (some go54) := (by rw [hw]; exact HP56.2); have hp_ : Kd.R (Kd.int .i64) 3 w57 w.heap.size (fun k_ => some k_ ≠ (u10 : Value).ownBlock ∧ some k_ ≠ (.slice (some ad144) x9_3.length co30 : Value).ownBlock) (.slice (some ⟨go54, 0, none⟩) x7_5.length co7) y157 := (by rw [hw, Ny157.out]; exact HP56.1); clear HP56; have n0_ := Aside0.mk (hp_); have n1_ := Aside0.mk (Kd.R_after (v := (.slice (some ⟨go54, 0, none⟩) x7_5.length co7)) (v1 := (.slice (some ⟨go54, 0, none⟩) x7_5.length co7)) (ok := (fun k_ => some k_ ≠ (.slice (some ad144) x9_3.length co30 : Value).ownBlock)) (by (with_reducible repeat (first | apply Kd.R_alloc | apply Kd.R_drewN | apply Kd.R_drew)); exact Kd.R_mono HO_10.out (fun _ hk => by first | exact ⟨hk.2, hk.1⟩ | exact hk)) hg (.inl rfl)); have n2_ := Aside0.mk (Kd.R_after (v := (.slice (some ⟨go54, 0, none⟩) x7_5.length co7)) (v1 := (.slice (some ⟨go54, 0, none⟩) x7_5.length co7)) (ok := (fun k_ => some k_ ≠ (u10 : Value).ownBlock)) (by (with_reducible repeat (first | apply Kd.R_alloc | apply Kd.R_drewN | apply Kd.R_drew)); exact Kd.R_mono HO_63.out (fun _ hk => by first | exact ⟨hk.2, hk.1⟩ | exact hk)) hg (.inl rfl)); have n3_ := Aside0.mk ((by rw [hw]; exact below_set (HB.out) GB54.out : Below w.heap.size w w57)); clear HO_7; clear HO_10; clear HO_63; clear HB; have HO_7 := n0_; have HO_10 := n1_; have HO_63 := n2_; have HB := n3_; clear n0_ n1_ n2_ n3_; clear hg hw hp_) | ((with_reducible refine gate_builtin (b := .append) (xs := #[.tmp 106, .tmp 108]) rfl ?_); (try (refine gate_guard (by rfl) ?_; dsimp only)); at_builtin; refine Kd.R_append (Kd.int .i64) (w0 := w) w.heap.size rfl (.tmp 106) (.tmp 108) 24 3 (.int .i64 0) 8 rfl Try.underlying24 info3 rfl (by decide) (by omega) u10 x10_5 (rd [t145, t146, t147, t148] x71_5) [.int .i64 (rd [t145, t146, t147, t148] x71_5)] (fun k_ => some k_ ≠ (.slice (some ⟨go54, 0, none⟩) x7_5.length co7 : Value).ownBlock ∧ some k_ ≠ (.slice (some ad144) x9_3.length co30 : Value).ownBlock) (fun _ => False) rfl rfl ?aP (fun _ hk => hk.elim) ?aF ?aO ?aB ?aS ?aL ?_; (case aP => exact rfl); (case aB => exact (by repeat (first | (with_reducible first | exact HB.out | apply below_alloc | apply pw_below_drewN | apply below_drew1) | exact HB.out))); (case aF => exact (fun k_ hk => ⟨Kd.fresh' (Kd.R_lt (by (with_reducible repeat (first | apply Kd.R_alloc | apply Kd.R_drewN | apply Kd.R_drew)); exact HO_7.out)) k_ hk, Kd.fresh' (Kd.R_lt (by (with_reducible repeat (first | apply Kd.R_alloc | apply Kd.R_drewN | apply Kd.R_drew)); exact HO_63.out)) k_ hk⟩)); (case aO => exact (by (with_reducible repeat (first | apply Kd.R_alloc | apply Kd.R_drewN | apply Kd.R_drew)); exact Kd.R_mono HO_10.out (fun _ hk => by first | exact ⟨hk.2, hk.1⟩ | exact hk))); (case aS => exact (below_size (by repeat (first | (with_reducible first | exact HB.out | apply below_alloc | apply pw_below_drewN | apply below_drew1) | exact HB.out)))); (case aL => have := LMc55.out; omega); intro v159 w58 ho hb hg hat; rw [← Ny158.out] at ho; have n0_ := Aside0.mk (Kd.R_after (ok := (fun k_ => some k_ ≠ (.slice (some ad144) x9_3.length co30 : Value).ownBlock)) (by (with_reducible repeat (first | apply Kd.R_alloc | apply Kd.R_drewN | apply Kd.R_drew)); exact Kd.R_mono HO_7.out (fun _ hk => by first | exact ⟨hk.2, hk.1⟩ | exact hk)) hg hat); have n1_ := Aside0.mk (Kd.R_after (ok := (fun k_ => some k_ ≠ (.slice (some ⟨go54, 0, none⟩) x7_5.length co7 : Value).ownBlock)) (by (with_reducible repeat (first | apply Kd.R_alloc | apply Kd.R_drewN | apply Kd.R_drew)); exact Kd.R_mono HO_63.out (fun _ hk => by first | exact ⟨hk.2, hk.1⟩ | exact hk)) hg hat); have n2_ := Aside0.mk (hb); have n3_ := Aside0.mk (ho); clear HO_7; clear HO_63; clear HB; clear HO_10; have HO_7 := n0_; have HO_63 := n1_; have HB := n2_; have HO160 := n3_; clear n0_ n1_ n2_ n3_; clear ho hb hg hat))
                                                    (try simp only [← hl7_5])
                                                    (first | (go_step3; refine (show (0 : Nat) = 0 ∧ K_ _ _ from ⟨rfl, ?_⟩); refine hK_ _ _ (Handed.intro k5 ?measure (hJ_ _ _ _ ?_)); rotate_left; (repeat apply Exists.intro); refine ⟨?rel, rfl⟩) | go_roundg k5)
                                                    case measure => have := HK1.out; have := HK2.out; have := HK3.out; have := HK4.out; have := HK5.out; omega
                                                    case rel => exact ⟨(y157), (y158), (wrap64 (x71_5 + 1)), (by first | rfl | (simp; done) | (simp [*]; done)), H', ⟨by have := HK1.out; have := HK2.out; have := HK3.out; have := HK4.out; have := HK5.out; omega⟩, ⟨by (try simp only [hl7_1]); (try simp only [hl7_2]); (try simp only [hl7_3]); (try simp only [hl7_4]); (try simp only [hl7_5]); (with_reducible repeat (first | apply Kd.R_alloc | apply Kd.R_drewN | apply Kd.R_drew)); exact Kd.R_mono HO_7.out (fun _ hk => by first | exact ⟨hk.2, hk.1⟩ | exact hk)⟩, ⟨by (try simp only [hl7_1]); (try simp only [hl7_2]); (try simp only [hl7_3]); (try simp only [hl7_4]); (try simp only [hl7_5]); (with_reducible repeat (first | apply Kd.R_alloc | apply Kd.R_drewN | apply Kd.R_drew)); exact HO160.out⟩, ⟨by (try simp only [hl7_1]); (try simp only [hl7_2]); (try simp only [hl7_3]); (try simp only [hl7_4]); (try simp only [hl7_5]); (with_reducible repeat (first | apply Kd.R_alloc | apply Kd.R_drewN | apply Kd.R_drew)); exact HO_63.out⟩, ⟨by repeat (first | (with_reducible first | exact HB.out | apply below_alloc | apply pw_below_drewN | apply below_drew1) | exact HB.out)⟩⟩
                                                  · rw [if_neg c55] at H
                                                    exact absurd H (by simp)
                                              · replace c45 := Bool.eq_false_iff.mpr c45
                                                subst c45
                                                have H1 : (grid_Field.l4 k5 l0 l1 x7_5 x10_5 (wrap64 (x13_3 + 1)) x9_3 (x9_3.length : Int) x65_4 (wrap64 (x71_5 + 1)) t145 t146 t147 t148) = some r := by rw [if_neg (show ¬ (false = true) by decide)] at H; exact H
                                                clear H
                                                have H := H1
                                                clear H1
                                                have H' := Aside0.mk H
                                                clear H
                                                have p38 : 0 ≤ (x71_5 : Int) := of_decide_eq_true (by first | (with_reducible assumption) | assumption)
                                                have q38 : x71_5 < (4 : Int) := of_decide_eq_true (by first | (with_reducible assumption) | assumption)
                                                have hx38 := fun W => index_four (P := Try.prog) Try.underlying40 Try.underlying3 rfl Try.sizeOf3 .i64 .i64 t145 t146 t147 t148 x71_5 p38 q38 W
                                                replace p38 := eq_true p38
                                                replace q38 := eq_true q38
                                                have p149 : 0 ≤ ((rd [t145, t146, t147, t148] x71_5) : Int) := of_decide_eq_true (by first | (with_reducible assumption) | assumption)
                                                have q149 : (rd [t145, t146, t147, t148] x71_5) < (x7_5.length : Int) := of_decide_eq_true (by first | (with_reducible assumption) | assumption)
                                                obtain ⟨ad149, e149, hx149_0⟩ := Kd.at_int (Kd.R_reads' HO_7.out).2.2 (rd [t145, t146, t147, t148] x71_5) p149 q149
                                                cases e149
                                                replace p149 := eq_true p149
                                                replace q149 := eq_true q149
                                                go_wp2_with (first | (go_at_call 26; (with_reducible refine (grid_kind.calls _ _ l0 (rd [t145, t146, t147, t148] x71_5) t150 _ ?side1 ?side2 A43.out).mono ?_); (case side1 => repeat (first | exact (Kd.C_below HR0.out HB.out) | (with_reducible refine Kd.C_alloc ?_ _) | (with_reducible refine Kd.C_drewN ?_ _) | (with_reducible refine Kd.C_drew ?_))); (case side2 => exact HC0.out); rintro e w' ⟨rfl, ⟨nd, rfl⟩⟩) | (go_at_call 29; (with_reducible refine (grid_Walk.calls t150 false _ A44.out).mono ?_); rintro e w' ⟨rfl, ⟨nd, rfl⟩⟩))
                                                (try simp only [← hl7_5])
                                                (first | (go_step3; refine (show (0 : Nat) = 0 ∧ K_ _ _ from ⟨rfl, ?_⟩); refine hK_ _ _ (Handed.intro k5 ?measure (hJ_ _ _ _ ?_)); rotate_left; (repeat apply Exists.intro); refine ⟨?rel, rfl⟩) | go_roundg k5)
                                                case measure => have := HK1.out; have := HK2.out; have := HK3.out; have := HK4.out; have := HK5.out; omega
                                                case rel => exact ⟨(x7_5), (x10_5), (wrap64 (x71_5 + 1)), (by first | rfl | (simp; done) | (simp [*]; done)), H', ⟨by have := HK1.out; have := HK2.out; have := HK3.out; have := HK4.out; have := HK5.out; omega⟩, ⟨by (try simp only [hl7_1]); (try simp only [hl7_2]); (try simp only [hl7_3]); (try simp only [hl7_4]); (try simp only [hl7_5]); (with_reducible repeat (first | apply Kd.R_alloc | apply Kd.R_drewN | apply Kd.R_drew)); exact HO_7.out⟩, ⟨by (try simp only [hl7_1]); (try simp only [hl7_2]); (try simp only [hl7_3]); (try simp only [hl7_4]); (try simp only [hl7_5]); (with_reducible repeat (first | apply Kd.R_alloc | apply Kd.R_drewN | apply Kd.R_drew)); exact HO_10.out⟩, ⟨by (try simp only [hl7_1]); (try simp only [hl7_2]); (try simp only [hl7_3]); (try simp only [hl7_4]); (try simp only [hl7_5]); (with_reducible repeat (first | apply Kd.R_alloc | apply Kd.R_drewN | apply Kd.R_drew)); exact HO_63.out⟩, ⟨by repeat (first | (with_reducible first | exact HB.out | apply below_alloc | apply pw_below_drewN | apply below_drew1) | exact HB.out)⟩⟩
                                          · rw [if_neg c41] at H
                                            exact absurd H (by simp)
                                        · rw [if_neg c40] at H
                                          exact absurd H (by simp)
                                    · rw [if_neg c37] at H
                                      exact absurd H (by simp)
                                  · rw [if_neg c36] at H
                                    have c36b0 : decide (x71_5 < 4) = false := decide_eq_false c36
                                    clear c36
                                    have H' := Aside0.mk H
                                    clear H
                                    go_wp2
                                    (try simp only [← hl7_4, ← hl7_5])
                                    (first | (go_step3; refine (show (0 : Nat) = 0 ∧ K_ _ _ from ⟨rfl, ?_⟩); refine hK_ _ _ (Handed.intro k5 ?measure (hJ_ _ _ _ ?_)); rotate_left; (repeat apply Exists.intro); refine ⟨?rel, rfl⟩) | go_roundg k5)
                                    case measure => have := HK1.out; have := HK2.out; have := HK3.out; have := HK4.out; have := HK5.out; omega
                                    case rel => exact ⟨(x7_5), (x10_5), (wrap64 (x65_4 + 1)), (by first | rfl | (simp; done) | (simp [*]; done)), H', ⟨by have := HK1.out; have := HK2.out; have := HK3.out; have := HK4.out; have := HK5.out; omega⟩, ⟨by (try simp only [hl7_1]); (try simp only [hl7_2]); (try simp only [hl7_3]); (try simp only [hl7_4]); (try simp only [hl7_5]); (with_reducible repeat (first | apply Kd.R_alloc | apply Kd.R_drewN | apply Kd.R_drew)); exact HO_7.out⟩, ⟨by (try simp only [hl7_1]); (try simp only [hl7_2]); (try simp only [hl7_3]); (try simp only [hl7_4]); (try simp only [hl7_5]); (with_reducible repeat (first | apply Kd.R_alloc | apply Kd.R_drewN | apply Kd.R_drew)); exact HO_10.out⟩, ⟨by (try simp only [hl7_1]); (try simp only [hl7_2]); (try simp only [hl7_3]); (try simp only [hl7_4]); (try simp only [hl7_5]); (with_reducible repeat (first | apply Kd.R_alloc | apply Kd.R_drewN | apply Kd.R_drew)); exact HO_63.out⟩, ⟨by repeat (first | (with_reducible first | exact HB.out | apply below_alloc | apply pw_below_drewN | apply below_drew1) | exact HB.out)⟩⟩
                            · rw [if_neg c33] at H
                              exact absurd H (by simp)
                          · rw [if_neg c32] at H
                            exact absurd H (by simp)
                        · rw [if_neg c31] at H
                          have c31b0 : decide (x65_4 < (x9_3.length : Int)) = false := decide_eq_false c31
                          (try simp only [hl7_1] at c31b0)
                          (try simp only [hl7_2] at c31b0)
                          (try simp only [hl7_3] at c31b0)
                          (try simp only [hl7_4] at c31b0)
                          clear c31
                          by_cases c59 : (x10_4.length : Int) > 0
                          · rw [if_pos c59] at H
                            have c59b0 : decide (0 < (x10_4.length : Int)) = true := decide_eq_true c59
                            have c59b1 : decide (0 < x10_4.length) = true := decide_eq_true (by omega)
                            clear c59
                            have H' := Aside0.mk H
                            clear H
                            obtain ⟨Ao60, co60, eo60⟩ := Kd.R_slice HO_10.out
                            subst eo60
                            go_wp2
                            (try simp only [← hl7_3, ← hl7_4])
                            (first | (go_step3; refine (show (0 : Nat) = 0 ∧ K_ _ _ from ⟨rfl, ?_⟩); refine hK_ _ _ (Handed.intro k4 ?measure (hJ_ _ _ _ ?_)); rotate_left; (repeat apply Exists.intro); refine ⟨?rel, rfl⟩) | go_roundg k4)
                            case measure => have := HK1.out; have := HK2.out; have := HK3.out; have := HK4.out; omega
                            case rel => exact ⟨(x7_4), (x10_4), ((wrap64 (x13_3 + 1))), (by first | rfl | (simp; done) | (simp [*]; done)), H', ⟨by have := HK1.out; have := HK2.out; have := HK3.out; have := HK4.out; omega⟩, ⟨by (try simp only [hl7_1]); (try simp only [hl7_2]); (try simp only [hl7_3]); (try simp only [hl7_4]); (with_reducible repeat (first | apply Kd.R_alloc | apply Kd.R_drewN | apply Kd.R_drew)); exact Kd.R_mono HO_7.out (fun _ hk => hk.1)⟩, ⟨by (try simp only [hl7_1]); (try simp only [hl7_2]); (try simp only [hl7_3]); (try simp only [hl7_4]); (with_reducible repeat (first | apply Kd.R_alloc | apply Kd.R_drewN | apply Kd.R_drew)); exact Kd.R_mono HO_10.out (fun _ hk => hk.1)⟩, ⟨by repeat (first | (with_reducible first | exact HB.out | apply below_alloc | apply pw_below_drewN | apply below_drew1) | exact HB.out)⟩⟩
                          · rw [if_neg c59] at H
                            have c59b0 : decide (0 < (x10_4.length : Int)) = false := decide_eq_false c59
                            (try simp only [hl7_1] at c59b0)
                            (try simp only [hl7_2] at c59b0)
                            (try simp only [hl7_3] at c59b0)
                            (try simp only [hl7_4] at c59b0)
                            have c59b1 : decide (0 < x10_4.length) = false := decide_eq_false (by omega)
                            clear c59
                            obtain rfl := Option.some.inj H
                            obtain ⟨Ao61, co61, eo61⟩ := Kd.R_slice HO_10.out
                            subst eo61
                            go_wp2
                            go_ret
                            exact ⟨_, by first | rfl | (simp [errW_none, errW_some] <;> rfl) | (simp [*, errW_none, errW_some] <;> rfl), by (with_reducible repeat (first | apply Kd.R_alloc | apply Kd.R_drewN | apply Kd.R_drew)); exact Kd.R_mono HO_7.out (fun _ hk => trivial), by repeat (first | (with_reducible first | exact HB.out | apply below_alloc | apply pw_below_drewN | apply below_drew1) | exact HB.out)⟩
  · rw [if_neg c4] at H
    exact absurd H (by simp)

end Go.Proofs.Ytjpcmpeigoikkaa.Q

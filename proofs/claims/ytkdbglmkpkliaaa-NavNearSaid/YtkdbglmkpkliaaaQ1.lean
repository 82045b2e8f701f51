/- By a program of this session's own, over the translation and the contracts by hand: each function's answers as a Lean function, and that the code comes to them. -/
import Derived.Test.YtkdbglmkpkliaaaQ0
namespace Go.Proofs.Ytkdbglmkpkliaaa.Q
open Go.RowKit Go.Proofs.YtkdbglmkpkliaaaW.PrintWords Go.Proofs.YtkdbglmkpkliaaaW.PrintLast Go.Proofs.YtkdbglmkpkliaaaW.PrintMore
attribute [local go_sem] max2_int min2_int max_two min_two max_three min_three max_four min_four   -- for this text's walks alone
set_option linter.unusedVariables false
set_option linter.unusedSimpArgs false

/-! ### fix_Mul: function 13 -/
def fix_Mul.f (a0 : Int) (a1 : Int) : Option (Int) := some ((wrap64 (a0 * a1)) / 65536)
set_option maxHeartbeats 8000000 in
set_option maxRecDepth 100000 in
theorem fix_Mul.calls (a0 : Int) (a1 : Int) (r : Int) (w : World) (h : fix_Mul.f a0 a1 = some r) :
    Calls Try.prog 13 #[.int .i64 a0, .int .i64 a1] w fun e w' => e = .returned (.int .i64 r) ∧ Drawn0 w w' := by
  have H : (some ((wrap64 (a0 * a1)) / 65536)) = some r := h
  clear h
  obtain rfl := Option.some.inj H
  go_enter Try.func13, Try.ntmps13
  go_wp2
  go_ret
  exact ⟨by first | rfl | (simp; done) | (simp [*]; done), by repeat (first | exact Drawn0.refl _ | apply Drawn0.step)⟩

/-! ### bits_Len (by the shelf's contract) -/
def bits_Len.f (a0 : Int) : Option Int := if 0 ≤ a0 then (if a0 ≤ 18446744073709551615 then some ((Lib.bitLen a0.toNat : Nat) : Int) else none) else none
theorem bits_Len.calls (a0 : Int) (r : Int) (w : World) (h : bits_Len.f a0 = some r) :
    Calls Try.prog 29 #[.int .u64 a0] w fun e w' => e = .returned (.int .i64 r) ∧ Drawn0 w w' := by
  unfold bits_Len.f at h
  by_cases h0 : 0 ≤ a0
  · rw [if_pos h0] at h
    by_cases h1 : a0 ≤ 18446744073709551615
    · rw [if_pos h1] at h
      obtain rfl := Option.some.inj h
      exact (Try.bits_Len a0 w h0 h1).mono fun e w' ⟨he, hw⟩ => ⟨he, hw ▸ Drawn0.refl _⟩
    · rw [if_neg h1] at h
      cases h
  · rw [if_neg h0] at h
    cases h

/-! ### fix_Root: function 14 -/
def fix_Root.l0 : Nat → Int → Int → Int → Option (Int)
  | 0, _, _, _ => none
  | k + 1, x0, x3, x4 => if x4 > 0 then (if (wrap64 (x3 + x4)) = 0 then (none) else (if (wrap64 (x3 + x4)) ≤ (wrap64 (Int.tdiv x0 (wrap64 (x3 + x4)))) then (fix_Root.l0 k x0 (wrap64 (x3 + x4)) (x4 / 2)) else (fix_Root.l0 k x0 x3 (x4 / 2)))) else (some x3)
def fix_Root.f (k : Nat) (a0 : Int) : Option (Int) := if a0 < 1 then (some 0) else ((bits_Len.f (IntKind.u64.wrap (a0))).bind fun t101 => (if 0 ≤ (wrap64 (Int.tdiv t101 2)) then (fix_Root.l0 k a0 0 (shl .i64 1 (wrap64 (Int.tdiv t101 2)))) else (none)))
theorem fix_Root.mono_l : ∀ k, (∀ y0 y1 y2, LeO (fix_Root.l0 k y0 y1 y2) (fix_Root.l0 (k + 1) y0 y1 y2))
  | 0 => fun _ _ _ r h => by simp [fix_Root.l0] at h
  | k + 1 => by
    have ih0 := fix_Root.mono_l k
    · intro y0 y1 y2
      unfold fix_Root.l0
      repeat' first
      | (with_reducible exact ih0 _ _ _)
      | (with_reducible exact LeO.refl _)
      | (with_reducible exact LeO.none _)
      | (with_reducible refine LeO.ite ?_ ?_)
      | (with_reducible refine LeO.bind ?_ (fun _ => ?_))
      | exact ih0 _ _ _
      | exact LeO.none _
      | refine LeO.ite ?_ ?_
      | refine LeO.bind ?_ (fun _ => ?_)
theorem fix_Root.mono : ∀ a0 k, LeO (fix_Root.f k a0) (fix_Root.f (k + 1) a0) := by
  intro a0 k
  have ih0 := fix_Root.mono_l k
  unfold fix_Root.f
  repeat' first
      | (with_reducible exact ih0 _ _ _)
      | (with_reducible exact LeO.refl _)
      | (with_reducible exact LeO.none _)
      | (with_reducible refine LeO.ite ?_ ?_)
      | (with_reducible refine LeO.bind ?_ (fun _ => ?_))
      | exact ih0 _ _ _
      | exact LeO.none _
      | refine LeO.ite ?_ ?_
      | refine LeO.bind ?_ (fun _ => ?_)
set_option maxHeartbeats 8000000 in
set_option maxRecDepth 100000 in
theorem fix_Root.calls (k : Nat) (a0 : Int) (r : Int) (w : World) (h : fix_Root.f k a0 = some r) :
    Calls Try.prog 14 #[.int .i64 a0] w fun e w' => e = .returned (.int .i64 r) ∧ Drawn0 w w' := by
  have H : (if a0 < 1 then (some 0) else ((bits_Len.f (IntKind.u64.wrap (a0))).bind fun t101 => (if 0 ≤ (wrap64 (Int.tdiv t101 2)) then (fix_Root.l0 k a0 0 (shl .i64 1 (wrap64 (Int.tdiv t101 2)))) else (none)))) = some r := h
  clear h
  by_cases c2 : a0 < 1
  · rw [if_pos c2] at H
    have c2b0 : decide (a0 < 1) = true := decide_eq_true c2
    clear c2
    obtain rfl := Option.some.inj H
    go_enter Try.func14, Try.ntmps14
    go_wp2
    go_ret
    exact ⟨by first | rfl | (simp; done) | (simp [*]; done), by repeat (first | exact Drawn0.refl _ | apply Drawn0.step)⟩
  · rw [if_neg c2] at H
    have c2b0 : decide (a0 < 1) = false := decide_eq_false c2
    clear c2
    replace H := Option.bind_eq_some_iff.mp H
    obtain ⟨t101, A30, H⟩ := H
    replace H : (if 0 ≤ (wrap64 (Int.tdiv t101 2)) then (fix_Root.l0 k a0 0 (shl .i64 1 (wrap64 (Int.tdiv t101 2)))) else (none)) = some r := H
    have A3 := Aside0.mk A30
    clear A30
    obtain ⟨ji4, hji4⟩ : ∃ j_ : Int, (wrap64 (Int.tdiv t101 2)) = j_ := ⟨_, rfl⟩
    replace H : (if 0 ≤ (ji4) then (fix_Root.l0 k a0 0 (shl .i64 1 (ji4))) else (none)) = some r := by first | (rw [hji4] at H; exact H) | (simp only [hji4] at H ⊢; exact H)
    (try rw [hji4] at A3)
    have hji4w : (IntKind.i64.wrap (Int.tdiv t101 2)) = ji4 := (i64_w _).trans hji4
    by_cases c5 : 0 ≤ (ji4)
    · rw [if_pos c5] at H
      have c5b0 := eq_true c5
      have c5b1 : decide (0 ≤ (ji4)) = true := decide_eq_true c5
      clear c5
      obtain ⟨ji6, hji6⟩ : ∃ j_ : Int, (shl .i64 1 (ji4)) = j_ := ⟨_, rfl⟩
      replace H : (fix_Root.l0 k a0 0 ji6) = some r := by first | (rw [hji6] at H; exact H) | (simp only [hji6] at H ⊢; exact H)
      (try rw [hji6] at A3)
      have hji6_ : (IntKind.i64.wrap (1 * 2 ^ min (ji4).toNat 64)) = ji6 := hji6
      have hji6z : (ji4) ≤ 64 → (IntKind.i64.wrap (1 * 2 ^ (ji4).toNat)) = ji6 := shl_small hji6
      have hji6u : (IntKind.i64.wrap (2 ^ min (ji4).toNat 64)) = ji6 := by have h_ := hji6_; rw [Int.one_mul] at h_; exact h_
      have hji6v : (ji4) ≤ 64 → (IntKind.i64.wrap (2 ^ (ji4).toNat)) = ji6 := fun hle_ => by have h_ := hji6z hle_; rw [Int.one_mul] at h_; exact h_
      have hji6y : (wrap64 (1 * 2 ^ min (ji4).toNat 64)) = ji6 := (i64_w _).symm.trans hji6_
      have hji6x : (ji4) ≤ 64 → (wrap64 (1 * 2 ^ (ji4).toNat)) = ji6 := fun h_ => (i64_w _).symm.trans (hji6z h_)
      have H' := Aside0.mk H
      clear H
      go_enter Try.func14, Try.ntmps14
      go_wp2_with (first | ((with_reducible refine gate_callee (f := 29) rfl ?_); refine goesL_ (some 10) rfl rfl Try.func29 (by kernel_rfl) rfl #[.int .u64 (IntKind.u64.wrap (a0))] rfl (by (try simp only [List.map_toArray, List.map_cons, List.map_nil]); first | done | rfl | (simp only [List.length_drop, List.length_take]; rfl)) ?_; (with_reducible refine (bits_Len.calls (IntKind.u64.wrap (a0)) t101 _ A3.out).mono ?_); rintro e w' ⟨rfl, ⟨nd, rfl⟩⟩; refine ⟨_, rfl, ?_⟩))
      go_loopg [3, 4] k (fun kq v3 v4 w' => ∃ (x3_1 : Int) (x4_1 : Int), v3 = .int .i64 x3_1 ∧ v4 = .int .i64 x4_1 ∧ Aside0 (fix_Root.l0 kq a0 x3_1 x4_1 = some r) ∧ Aside0 (kq ≤ k) ∧ Drawn0 w w')
      case atStart => exact ⟨(0), (ji6), (by first | rfl | (simp; done) | (simp [*]; done)), (by first | rfl | (simp; done) | (simp only [← hji6] <;> (first | rfl | simp)) | (simp [*]; done)), H', ⟨Nat.le_refl _⟩, by repeat (first | exact Drawn0.refl _ | apply Drawn0.step)⟩
      case round =>
        clear H'
        try clear c1
        try clear c2
        try clear c2b0
        try clear p2
        try clear c5
        try clear c5b0
        try clear c5b1
        try clear p6
        obtain ⟨x3_1, x4_1, rfl, rfl, HA, HK1, ⟨m1, rfl⟩⟩ := hrel
        cases gk with
        | zero => exact absurd HA.out (by simp [fix_Root.l0])
        | succ k1 =>
          have H := HA.out
          clear HA
          simp only [fix_Root.l0] at H
          by_cases c7 : x4_1 > 0
          · rw [if_pos c7] at H
            have c7b0 : decide (0 < x4_1) = true := decide_eq_true c7
            clear c7
            by_cases c8 : (wrap64 (x3_1 + x4_1)) = 0
            · rw [if_pos c8] at H
              exact absurd H (by simp)
            · rw [if_neg c8] at H
              have c8b0 : ((wrap64 (x3_1 + x4_1)) == 0) = false := beq_eq_false_iff_ne.mpr c8
              have c8b1 : ((wrap64 (x3_1 + x4_1)) != 0) = true := bne_iff_ne.mpr c8
              by_cases c9 : (wrap64 (x3_1 + x4_1)) ≤ (wrap64 (Int.tdiv a0 (wrap64 (x3_1 + x4_1))))
              · rw [if_pos c9] at H
                have c9b0 : decide ((wrap64 (x3_1 + x4_1)) ≤ (wrap64 (Int.tdiv a0 (wrap64 (x3_1 + x4_1))))) = true := decide_eq_true c9
                clear c9
                have H' := Aside0.mk H
                clear H
                go_wp2
                go_roundg k1
                case measure => have := HK1.out; omega
                case rel => exact ⟨(wrap64 (x3_1 + x4_1)), (x4_1 / 2), (by first | rfl | (simp; done) | (simp [*]; done)), (by first | rfl | (simp; done) | (simp [*]; done)), H', ⟨by have := HK1.out; omega⟩, by repeat (first | exact Drawn0.refl _ | apply Drawn0.step)⟩
              · rw [if_neg c9] at H
                have c9b0 : decide ((wrap64 (x3_1 + x4_1)) ≤ (wrap64 (Int.tdiv a0 (wrap64 (x3_1 + x4_1))))) = false := decide_eq_false c9
                clear c9
                have H' := Aside0.mk H
                clear H
                go_wp2
                go_roundg k1
                case measure => have := HK1.out; omega
                case rel => exact ⟨(x3_1), (x4_1 / 2), (by first | rfl | (simp; done) | (simp [*]; done)), (by first | rfl | (simp; done) | (simp [*]; done)), H', ⟨by have := HK1.out; omega⟩, by repeat (first | exact Drawn0.refl _ | apply Drawn0.step)⟩
          · rw [if_neg c7] at H
            have c7b0 : decide (0 < x4_1) = false := decide_eq_false c7
            clear c7
            obtain rfl := Option.some.inj H
            go_wp2
            go_ret
            exact ⟨by first | rfl | (simp; done) | (simp only [← hji4, ← hji6] <;> (first | rfl | simp)) | (simp [*]; done), by repeat (first | exact Drawn0.refl _ | apply Drawn0.step)⟩
    · rw [if_neg c5] at H
      exact absurd H (by simp)

/-! ### fix_Dist: function 17 -/
def fix_Dist.f (k : Nat) (a0 : Int) (a1 : Int) : Option (Int) := (fix_Root.f k (wrap64 (65536 * (wrap64 ((wrap64 (a0 * a0)) + (wrap64 (a1 * a1))))))).bind fun t102 => (some t102)
theorem fix_Dist.mono : ∀ a0 a1 k, LeO (fix_Dist.f k a0 a1) (fix_Dist.f (k + 1) a0 a1) := by
  intro a0 a1 k
  unfold fix_Dist.f
  repeat' first
      | (with_reducible exact fix_Root.mono _ _)
      | (with_reducible exact LeO.refl _)
      | (with_reducible exact LeO.none _)
      | (with_reducible refine LeO.ite ?_ ?_)
      | (with_reducible refine LeO.bind ?_ (fun _ => ?_))
      | exact fix_Root.mono _ _
      | exact LeO.none _
      | refine LeO.ite ?_ ?_
      | refine LeO.bind ?_ (fun _ => ?_)
set_option maxHeartbeats 8000000 in
set_option maxRecDepth 100000 in
theorem fix_Dist.calls (k : Nat) (a0 : Int) (a1 : Int) (r : Int) (w : World) (h : fix_Dist.f k a0 a1 = some r) :
    Calls Try.prog 17 #[.int .i64 a0, .int .i64 a1] w fun e w' => e = .returned (.int .i64 r) ∧ Drawn0 w w' := by
  have H : ((fix_Root.f k (wrap64 (65536 * (wrap64 ((wrap64 (a0 * a0)) + (wrap64 (a1 * a1))))))).bind fun t102 => (some t102)) = some r := h
  clear h
  replace H := Option.bind_eq_some_iff.mp H
  obtain ⟨t102, A30, H⟩ := H
  replace H : (some t102) = some r := H
  have A3 := Aside0.mk A30
  clear A30
  obtain rfl := Option.some.inj H
  go_enter Try.func17, Try.ntmps17
  go_wp2_with (first | ((with_reducible refine gate_callee (f := 14) rfl ?_); refine goesL_ (some 13) rfl rfl Try.func14 (by kernel_rfl) rfl #[.int .i64 (wrap64 (65536 * (wrap64 ((wrap64 (a0 * a0)) + (wrap64 (a1 * a1))))))] rfl (by (try simp only [List.map_toArray, List.map_cons, List.map_nil]); first | done | rfl | (simp only [List.length_drop, List.length_take]; rfl)) ?_; (with_reducible refine (fix_Root.calls k (wrap64 (65536 * (wrap64 ((wrap64 (a0 * a0)) + (wrap64 (a1 * a1)))))) t102 _ A3.out).mono ?_); rintro e w' ⟨rfl, ⟨nd, rfl⟩⟩; refine ⟨_, rfl, ?_⟩))
  go_ret
  exact ⟨by first | rfl | (simp; done) | (simp [*]; done), by repeat (first | exact Drawn0.refl _ | apply Drawn0.step)⟩

/-! ### fix: steps that are turned (by hand) -/
def rot : Nat → Int → Int → Int × Int
  | 0, x, y => (x, y)
  | k + 1, x, y => (-(rot k x y).2, (rot k x y).1)
def qn (q : Int) : Nat := ((Int.tmod q 4 + 4) % 4).toNat
theorem rot_bound (k : Nat) (x y B : Int) (h1 : x.natAbs < B) (h2 : y.natAbs < B) : (rot k x y).1.natAbs < B ∧ (rot k x y).2.natAbs < B := by
  induction k with
  | zero => exact ⟨h1, h2⟩
  | succ k ih => obtain ⟨i1, i2⟩ := ih; exact ⟨by show ((-(rot k x y).2).natAbs : Int) < B; rw [Int.natAbs_neg]; exact i2, i1⟩
theorem tmod4_bounds (q : Int) : -4 < Int.tmod q 4 ∧ Int.tmod q 4 < 4 := ⟨Int.lt_tmod_of_pos q (by decide), Int.tmod_lt_of_pos q (by decide)⟩

set_option maxHeartbeats 1000000 in
set_option maxRecDepth 100000 in
theorem fix_turned.walk (a b : Nat) (x y q : Int) (w : World) (ha : YtkdbglmkpkliaaaF.Rep a x) (hb : YtkdbglmkpkliaaaF.Rep b y) (hx : x.natAbs < 9007199254740992) (hy : y.natAbs < 9007199254740992) :
    Calls Try.prog 31 #[.complex .f64 a b, .int .i64 q] w fun e w' => (∃ re im, e = .returned (.complex .f64 re im) ∧ YtkdbglmkpkliaaaF.Rep re (rot (qn q) x y).1 ∧ YtkdbglmkpkliaaaF.Rep im (rot (qn q) x y).2) ∧ w = w' := by
  obtain ⟨hq1, hq2⟩ := tmod4_bounds q
  have hn1 : 0 ≤ (Int.tmod q 4 + 4) % 4 := by omega
  have hn2 : (Int.tmod q 4 + 4) % 4 < 4 := by omega
  have HR := Lib.hid (And.intro ha hb)
  have HX := Lib.hid (And.intro hx hy)
  clear ha hb hx hy
  go_enter Try.func31, Try.ntmps31
  go_wp2
  go_loop [0, 9] (fun z i => ∃ (k : Nat) (a' b' : Nat), (k : Int) ≤ (Int.tmod q 4 + 4) % 4 ∧ z = .complex .f64 a' b' ∧ i = .int .i64 k ∧ Hid (YtkdbglmkpkliaaaF.Rep a' (rot k x y).1 ∧ YtkdbglmkpkliaaaF.Rep b' (rot k x y).2)) (fun _ i => (4 - intOf i).toNat)
  case atStart => exact ⟨0, a, b, hn1, rfl, rfl, HR⟩
  case round =>
    obtain ⟨k, a', b', hk, rfl, rfl, HP⟩ := hrel
    obtain ⟨p1, p2⟩ := HP.out
    obtain ⟨b1, b2⟩ := rot_bound k x y 9007199254740992 (by have := HX.out.1; omega) (by have := HX.out.2; omega)
    obtain ⟨re, im, hc, hre, him⟩ := YtkdbglmkpkliaaaF.quarter p1 p2 (by omega) (by omega)
    have hmul := fun wx => run_complex_mul (P := Try.prog) wx 40 a' b' 0 4607182418800017408 re im hc
    have HN : Hid (YtkdbglmkpkliaaaF.Rep re (rot (k + 1) x y).1 ∧ YtkdbglmkpkliaaaF.Rep im (rot (k + 1) x y).2) := Lib.hid (And.intro hre him)
    clear p1 p2 b1 b2 hc hre him HR HX
    by_cases hlt : (k : Int) < (Int.tmod q 4 + 4) % 4
    · go_wp2
      go_round
      case rel => exact ⟨k + 1, re, im, by omega, rfl, by go_num, HN⟩
      case measure => simp [intOf]; omega
    · go_wp2
      go_ret
      have hk2 : k = qn q := by unfold qn; omega
      exact ⟨⟨a', b', rfl, hk2 ▸ HP.out.1, hk2 ▸ HP.out.2⟩, rfl⟩

set_option maxRecDepth 100000 in
theorem fix_plain.walk (a b : Nat) (x y : Int) (w : World) (ha : YtkdbglmkpkliaaaF.Rep a x) (hb : YtkdbglmkpkliaaaF.Rep b y) (hx : x.natAbs < 9007199254740992) (hy : y.natAbs < 9007199254740992) :
    Calls Try.prog 30 #[.complex .f64 a b] w fun e w' => e = .returned (.tuple #[.int .i64 x, .int .i64 y]) ∧ w = w' := by
  have h1 := fun wx => run_convert_float_int (P := Try.prog) wx 42 3 .f64 .i64 a x (by kernel_rfl) Try.underlying3 (YtkdbglmkpkliaaaF.toInt_rep ha (by omega) (by omega))
  have h2 := fun wx => run_convert_float_int (P := Try.prog) wx 42 3 .f64 .i64 b y (by kernel_rfl) Try.underlying3 (YtkdbglmkpkliaaaF.toInt_rep hb (by omega) (by omega))
  clear ha hb
  go_enter Try.func30, Try.ntmps30
  go_wp2
  go_ret2
  exact ⟨rfl, rfl⟩


end Go.Proofs.Ytkdbglmkpkliaaa.Q

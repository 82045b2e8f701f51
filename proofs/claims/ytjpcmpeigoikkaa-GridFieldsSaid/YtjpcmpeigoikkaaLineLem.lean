/- Plain laws of lines between cells: both texts' lines are one list, cell by cell. No condition beyond the bounds in each statement. -/
import Derived.Test.YtjpcmpeigoikkaaNumLem
import Derived.Test.YtjpcmpeigoikkaaQ2
import Derived.Test.YtjpcmpeigoikkaaQ10
namespace Go.Proofs.Ytjpcmpeigoikkaa.Pure
set_option linter.unusedVariables false
set_option linter.unusedSimpArgs false
open Go.RowKit Go.Proofs.Ytjpcmpeigoikkaa.Q Go.Proofs.YtjpcmpeigoikkaaW.PrintWords Go.Proofs.YtjpcmpeigoikkaaW.PrintLast Go.Proofs.YtjpcmpeigoikkaaW.PrintMore

/-- The nearest whole to p / n. -/
def nr (p n : Int) : Int := (2 * p + n) / (2 * n)
theorem nr_near (p n : Int) (hn : 0 < n) (hn2 : n < 1000) (hp : (p.natAbs : Int) < 1000000) : grid_near.f p n = some (nr p n) := by
  have bd := ediv_bound (2 * p + n) (2 * n) (by omega)
  unfold grid_near.f nr
  rw [w64 (n := 2 * n) (by omega) (by omega), w64 (n := 2 * p) (by omega) (by omega), w64 (n := 2 * p + n) (by omega) (by omega), if_neg (by omega)]
  have h1 := Int.emod_nonneg (2 * p + n) (show 2 * n ≠ 0 by omega)
  have h2 := Int.emod_lt_of_pos (2 * p + n) (show 0 < 2 * n by omega)
  rcases tmod_cases (2 * p + n) (2 * n) (by omega) with ⟨e1, e2, _⟩ | ⟨_, e0, e1, e2⟩
  · rw [e1, e2, if_neg (by omega), w64 (by omega) (by omega)]
  · rw [e1, e2, if_pos (by omega), w64 (n := (2 * p + n) / (2 * n) + 1) (by omega) (by omega), w64 (by omega) (by omega)]
    congr 1
    omega
theorem nr_off (p n : Int) (hn : 0 < n) (hn2 : n < 1000) (hp : (p.natAbs : Int) < 1000000) : aditref3_off.f p n = some (nr p n) := by
  rw [← nr_near p n hn hn2 hp]
  rfl

theorem nr_zero (n : Int) (hn : 0 < n) : nr 0 n = 0 := by
  unfold nr
  exact (Int.ediv_emod_unique (a := 2 * 0 + n) (b := 2 * n) (r := n) (q := 0) (by omega)).2 ⟨by omega, by omega, by omega⟩ |>.1
theorem nr_whole (n d : Int) (hn : 0 < n) : nr (n * d) n = d := by
  unfold nr
  refine ((Int.ediv_emod_unique (a := 2 * (n * d) + n) (b := 2 * n) (r := n) (q := d) (by omega)).2 ⟨?_, by omega, by omega⟩).1
  rw [Int.mul_assoc]
  omega
theorem nr_mono (p q n : Int) (hn : 0 < n) (h : p ≤ q) : nr p n ≤ nr q n := by
  unfold nr
  exact Int.ediv_le_ediv (by omega) (by omega)
theorem nr_step (p d n : Int) (hn : 0 < n) (h1 : -n ≤ d) (h2 : d ≤ n) : nr p n - 1 ≤ nr (p + d) n ∧ nr (p + d) n ≤ nr p n + 1 := by
  have e1 : nr (p + n) n = nr p n + 1 := by
    unfold nr
    rw [show 2 * (p + n) + n = (2 * p + n) + 2 * n by omega]
    rw [Int.add_ediv_of_dvd_right (Int.dvd_refl _), Int.ediv_self (by omega)]
  have e2 : nr (p - n) n = nr p n - 1 := by
    have : nr (p - n + n) n = nr (p - n) n + 1 := by
      unfold nr
      rw [show 2 * (p - n + n) + n = (2 * (p - n) + n) + 2 * n by omega]
      rw [Int.add_ediv_of_dvd_right (Int.dvd_refl _), Int.ediv_self (by omega)]
    rw [show p - n + n = p by omega] at this
    omega
  have a := nr_mono (p - n) (p + d) n hn (by omega)
  have b := nr_mono (p + d) (p + n) n hn (by omega)
  omega
/-- On the way from 0 to d in n steps nothing lies beyond. -/
theorem nr_between (k d n : Int) (hn : 0 < n) (h0 : 0 ≤ k) (h1 : k ≤ n) : (0 ≤ d → 0 ≤ nr (k * d) n ∧ nr (k * d) n ≤ d) ∧ (d ≤ 0 → d ≤ nr (k * d) n ∧ nr (k * d) n ≤ 0) := by
  have z := nr_zero n hn
  have w := nr_whole n d hn
  constructor
  · intro hd
    have a := nr_mono 0 (k * d) n hn (Int.mul_nonneg h0 hd)
    have b := nr_mono (k * d) (n * d) n hn (Int.mul_le_mul_of_nonneg_right h1 hd)
    omega
  · intro hd
    have e1 : k * d ≤ 0 := Int.mul_nonpos_of_nonneg_of_nonpos h0 hd
    have e2 : n * d ≤ k * d := Int.mul_le_mul_of_nonpos_right h1 hd
    have a := nr_mono (k * d) 0 n hn e1
    have b := nr_mono (n * d) (k * d) n hn e2
    omega

/-- A cell's number. -/
def cel (x y : Int) : Int := y * 24 + x
def InG (x y : Int) : Prop := 0 ≤ x ∧ x < 24 ∧ 0 ≤ y ∧ y < 16
instance (x y : Int) : Decidable (InG x y) := by unfold InG; infer_instance
theorem place_is (x y : Int) : grid_place.f x y = some (if InG x y then cel x y else -1) := by
  unfold grid_place.f
  by_cases h1 : x < 0
  · rw [if_pos h1, if_neg (by unfold InG; omega)]
  rw [if_neg h1]
  by_cases h2 : x ≥ 24
  · rw [if_pos h2, if_neg (by unfold InG; omega)]
  rw [if_neg h2]
  by_cases h3 : y < 0
  · rw [if_pos h3, if_neg (by unfold InG; omega)]
  rw [if_neg h3]
  by_cases h4 : y ≥ 16
  · rw [if_pos h4, if_neg (by unfold InG; omega)]
  rw [if_neg h4, if_pos (by unfold InG; omega), w64 (n := y * 24) (by omega) (by omega), w64 (by omega) (by omega)]
  rfl
theorem in_is (x y : Int) : aditref3_In.f x y = some (decide (InG x y)) := by
  unfold aditref3_In.f
  by_cases h1 : x ≥ 0
  · rw [if_pos h1]
    by_cases h2 : x < 24
    · rw [if_pos h2]
      by_cases h3 : y ≥ 0
      · rw [if_pos h3]
        congr 1
        exact decide_eq_decide.2 ⟨fun h => ⟨h1, h2, h3, h⟩, fun h => h.2.2.2⟩
      · rw [if_neg h3, decide_eq_false (fun h => h3 h.2.2.1)]
    · rw [if_neg h2, decide_eq_false (fun h => h2 h.2.1)]
  · rw [if_neg h1, decide_eq_false (fun h => h1 h.1)]

/-- How many steps a line takes. -/
def stp (dx dy : Int) : Int := max (max dx (-dx)) (max dy (-dy))
/-- The k-th cell of a line. -/
def lc (x0 y0 x1 y1 : Int) (k : Nat) : Int := cel (x0 + nr (k * (x1 - x0)) (stp (x1 - x0) (y1 - y0))) (y0 + nr (k * (y1 - y0)) (stp (x1 - x0) (y1 - y0)))
def lineL (x0 y0 x1 y1 : Int) : List Int := if stp (x1 - x0) (y1 - y0) = 0 then [cel x0 y0] else (List.range ((stp (x1 - x0) (y1 - y0)).toNat + 1)).map (lc x0 y0 x1 y1)

theorem mx_max (a b : Int) : mx a b = max a b := by unfold mx; omega
theorem stp_le (x0 y0 x1 y1 : Int) (h0 : InG x0 y0) (h1 : InG x1 y1) : 0 ≤ stp (x1 - x0) (y1 - y0) ∧ stp (x1 - x0) (y1 - y0) ≤ 23 := by
  unfold InG at h0 h1
  unfold stp
  omega
theorem prod_small (k d : Int) (hk : (k.natAbs : Int) ≤ 24) (hd : (d.natAbs : Int) ≤ 24) : ((k * d).natAbs : Int) ≤ 576 := by
  have := mul_bound (a := k) (b := d) (A := 24) (B := 24) hk hd
  omega
/-- A cell on the way lies within. -/
theorem on_way (x0 y0 x1 y1 k : Int) (h0 : InG x0 y0) (h1 : InG x1 y1) (hk0 : 0 ≤ k) (hk1 : k ≤ stp (x1 - x0) (y1 - y0)) (hs : 0 < stp (x1 - x0) (y1 - y0)) :
    InG (x0 + nr (k * (x1 - x0)) (stp (x1 - x0) (y1 - y0))) (y0 + nr (k * (y1 - y0)) (stp (x1 - x0) (y1 - y0))) := by
  have a := nr_between k (x1 - x0) _ hs hk0 hk1
  have b := nr_between k (y1 - y0) _ hs hk0 hk1
  generalize nr (k * (x1 - x0)) (stp (x1 - x0) (y1 - y0)) = p at a ⊢
  generalize nr (k * (y1 - y0)) (stp (x1 - x0) (y1 - y0)) = q at b ⊢
  unfold InG at h0 h1 ⊢
  omega

theorem line_loop (x0 y0 x1 y1 : Int) (h0 : InG x0 y0) (h1 : InG x1 y1) (hs : 0 < stp (x1 - x0) (y1 - y0)) (d : Nat) : ∀ (k i : Nat) (out : List Int), (i : Int) + d = stp (x1 - x0) (y1 - y0) + 1 → 1 ≤ i → d < k → out = (List.range i).map (lc x0 y0 x1 y1) →
    grid_Line.l0 k x0 y0 x1 y1 (stp (x1 - x0) (y1 - y0)) out (i : Int) = some ((List.range ((stp (x1 - x0) (y1 - y0)).toNat + 1)).map (lc x0 y0 x1 y1)) := by
  have hle := stp_le x0 y0 x1 y1 h0 h1
  have b0 := h0
  have b1 := h1
  unfold InG at b0 b1
  induction d with
  | zero =>
    intro k i out hi _ hk ho
    obtain ⟨k, rfl⟩ : ∃ m, k = m + 1 := ⟨k - 1, by omega⟩
    simp only [grid_Line.l0]
    rw [if_neg (by omega), ho, show i = (stp (x1 - x0) (y1 - y0)).toNat + 1 by omega]
  | succ d ih =>
    intro k i out hi hi1 hk ho
    obtain ⟨k, rfl⟩ : ∃ m, k = m + 1 := ⟨k - 1, by omega⟩
    have hp := prod_small i (x1 - x0) (by omega) (by omega)
    have hq := prod_small i (y1 - y0) (by omega) (by omega)
    have hw := on_way x0 y0 x1 y1 i h0 h1 (by omega) (by omega) hs
    have hx := nr_between i (x1 - x0) _ hs (by omega) (by omega)
    have hy := nr_between i (y1 - y0) _ hs (by omega) (by omega)
    simp only [grid_Line.l0]
    rw [if_pos (by omega), w64 (n := x1 - x0) (by omega) (by omega), w64 (n := y1 - y0) (by omega) (by omega), w64 (n := (i : Int) * (x1 - x0)) (by omega) (by omega), w64 (n := (i : Int) * (y1 - y0)) (by omega) (by omega)]
    rw [nr_near _ _ hs (by omega) (by omega), Option.bind_some, nr_near _ _ hs (by omega) (by omega), Option.bind_some]
    rw [w64 (n := x0 + nr (i * (x1 - x0)) (stp (x1 - x0) (y1 - y0))) (by omega) (by omega), w64 (n := y0 + nr (i * (y1 - y0)) (stp (x1 - x0) (y1 - y0))) (by omega) (by omega), place_is, if_pos hw, Option.bind_some]
    have hl : out.length = i := by rw [ho]; simp
    rw [if_pos (by omega), show wrap64 ((i : Int) + 1) = ((i + 1 : Nat) : Int) by unfold wrap64; omega]
    refine ih k (i + 1) _ (by omega) (by omega) (by omega) ?_
    rw [List.range_succ, List.map_append, ho]
    rfl

theorem line_in (k : Nat) (hk : 30 ≤ k) (x0 y0 x1 y1 : Int) (h0 : InG x0 y0) (h1 : InG x1 y1) : grid_Line.f k x0 y0 x1 y1 = some (lineL x0 y0 x1 y1) := by
  obtain ⟨k, rfl⟩ : ∃ m, k = m + 1 := ⟨k - 1, by omega⟩
  have hle := stp_le x0 y0 x1 y1 h0 h1
  have b0 := h0
  have b1 := h1
  unfold InG at b0 b1
  unfold grid_Line.f
  rw [place_is, if_pos h0, Option.bind_some, if_neg (by unfold cel; omega), place_is, if_pos h1, Option.bind_some]
  simp only [grid_Line.j0]
  rw [if_neg (by unfold cel; simp; omega), place_is, if_pos h0, Option.bind_some]
  rw [w64 (n := x1 - x0) (by omega) (by omega), w64 (n := x0 - x1) (by omega) (by omega), w64 (n := y1 - y0) (by omega) (by omega), w64 (n := y0 - y1) (by omega) (by omega)]
  rw [mx_max, mx_max, mx_max, show max (max (max (x1 - x0) (x0 - x1)) (y1 - y0)) (y0 - y1) = stp (x1 - x0) (y1 - y0) by unfold stp; omega]
  unfold lineL
  by_cases hs : stp (x1 - x0) (y1 - y0) = 0
  · rw [if_pos hs, hs]
    obtain ⟨k, rfl⟩ : ∃ m, k = m + 1 := ⟨k - 1, by omega⟩
    simp only [grid_Line.l0]
    rw [if_neg (by omega)]
  · rw [if_neg hs]
    refine line_loop x0 y0 x1 y1 h0 h1 (by omega) (stp (x1 - x0) (y1 - y0)).toNat k 1 _ (by omega) (by omega) (by omega) ?_
    simp [lc, nr_zero _ (show 0 < stp (x1 - x0) (y1 - y0) by omega)]
theorem line_out (k : Nat) (hk : 30 ≤ k) (x0 y0 x1 y1 : Int) (h : ¬ (InG x0 y0 ∧ InG x1 y1)) : grid_Line.f k x0 y0 x1 y1 = some [] := by
  obtain ⟨k, rfl⟩ : ∃ m, k = m + 1 := ⟨k - 1, by omega⟩
  unfold grid_Line.f
  rw [place_is, Option.bind_some]
  by_cases h0 : InG x0 y0
  · have h1 : ¬ InG x1 y1 := fun h1 => h ⟨h0, h1⟩
    have b0 := h0
    unfold InG at b0
    rw [if_pos h0, if_neg (by unfold cel; omega), place_is, if_neg h1, Option.bind_some]
    simp [grid_Line.j0]
  · rw [if_neg h0, if_pos (by omega)]
    simp [grid_Line.j0]

theorem ref_line_loop (x0 y0 x1 y1 : Int) (h0 : InG x0 y0) (h1 : InG x1 y1) (hs : 0 < stp (x1 - x0) (y1 - y0)) (d : Nat) : ∀ (k i : Nat) (out : List Int), (i : Int) + d = stp (x1 - x0) (y1 - y0) + 1 → d < k → out = (List.range i).map (lc x0 y0 x1 y1) →
    aditref3_Line.l0 k x0 y0 (x1 - x0) (y1 - y0) (stp (x1 - x0) (y1 - y0)) out (i : Int) = some ((List.range ((stp (x1 - x0) (y1 - y0)).toNat + 1)).map (lc x0 y0 x1 y1)) := by
  have hle := stp_le x0 y0 x1 y1 h0 h1
  have b0 := h0
  have b1 := h1
  unfold InG at b0 b1
  induction d with
  | zero =>
    intro k i out hi hk ho
    obtain ⟨k, rfl⟩ : ∃ m, k = m + 1 := ⟨k - 1, by omega⟩
    simp only [aditref3_Line.l0]
    rw [if_neg (by omega), ho, show i = (stp (x1 - x0) (y1 - y0)).toNat + 1 by omega]
  | succ d ih =>
    intro k i out hi hk ho
    obtain ⟨k, rfl⟩ : ∃ m, k = m + 1 := ⟨k - 1, by omega⟩
    have hp := prod_small i (x1 - x0) (by omega) (by omega)
    have hq := prod_small i (y1 - y0) (by omega) (by omega)
    have hx := nr_between i (x1 - x0) _ hs (by omega) (by omega)
    have hy := nr_between i (y1 - y0) _ hs (by omega) (by omega)
    simp only [aditref3_Line.l0]
    rw [if_pos (by omega), w64 (n := (i : Int) * (x1 - x0)) (by omega) (by omega), w64 (n := (i : Int) * (y1 - y0)) (by omega) (by omega)]
    rw [nr_off _ _ hs (by omega) (by omega), Option.bind_some, nr_off _ _ hs (by omega) (by omega), Option.bind_some]
    have hl : out.length = i := by rw [ho]; simp
    have hv : wrap64 (wrap64 (wrap64 (wrap64 (y0 + nr (i * (y1 - y0)) (stp (x1 - x0) (y1 - y0))) * 24) + x0) + nr (i * (x1 - x0)) (stp (x1 - x0) (y1 - y0))) = lc x0 y0 x1 y1 i := by
      unfold lc cel
      generalize nr (i * (x1 - x0)) (stp (x1 - x0) (y1 - y0)) = p at hx ⊢
      generalize nr (i * (y1 - y0)) (stp (x1 - x0) (y1 - y0)) = q at hy ⊢
      unfold wrap64
      omega
    rw [if_pos (by omega), hv, show wrap64 ((i : Int) + 1) = ((i + 1 : Nat) : Int) by unfold wrap64; omega]
    refine ih k (i + 1) _ (by omega) (by omega) ?_
    rw [List.range_succ, List.map_append, ho]
    rfl
theorem ref_line_in (k : Nat) (hk : 30 ≤ k) (x0 y0 x1 y1 : Int) (h0 : InG x0 y0) (h1 : InG x1 y1) : aditref3_Line.f k x0 y0 x1 y1 = some (lineL x0 y0 x1 y1) := by
  obtain ⟨k, rfl⟩ : ∃ m, k = m + 1 := ⟨k - 1, by omega⟩
  have hle := stp_le x0 y0 x1 y1 h0 h1
  have b0 := h0
  have b1 := h1
  unfold InG at b0 b1
  unfold aditref3_Line.f
  rw [in_is, decide_eq_true h0, Option.bind_some, if_pos rfl, in_is, decide_eq_true h1, Option.bind_some]
  simp only [aditref3_Line.j0]
  rw [if_neg (by decide), w64 (n := x1 - x0) (by omega) (by omega), w64 (n := y1 - y0) (by omega) (by omega), w64 (n := -(x1 - x0)) (by omega) (by omega), w64 (n := -(y1 - y0)) (by omega) (by omega)]
  rw [mx_max, mx_max, mx_max, show max (max (x1 - x0) (-(x1 - x0))) (max (y1 - y0) (-(y1 - y0))) = stp (x1 - x0) (y1 - y0) from rfl]
  unfold lineL
  by_cases hs : stp (x1 - x0) (y1 - y0) = 0
  · rw [if_pos hs, if_pos hs, w64 (n := y0 * 24) (by omega) (by omega), w64 (by omega) (by omega)]
    rfl
  · rw [if_neg hs, if_neg hs]
    exact ref_line_loop x0 y0 x1 y1 h0 h1 (by omega) ((stp (x1 - x0) (y1 - y0)).toNat + 1) k 0 _ (by omega) (by omega) rfl
theorem ref_line_out (k : Nat) (hk : 30 ≤ k) (x0 y0 x1 y1 : Int) (h : ¬ (InG x0 y0 ∧ InG x1 y1)) : aditref3_Line.f k x0 y0 x1 y1 = some [] := by
  obtain ⟨k, rfl⟩ : ∃ m, k = m + 1 := ⟨k - 1, by omega⟩
  unfold aditref3_Line.f
  rw [in_is, Option.bind_some]
  by_cases h0 : InG x0 y0
  · have h1 : ¬ InG x1 y1 := fun h1 => h ⟨h0, h1⟩
    rw [decide_eq_true h0, if_pos rfl, in_is, decide_eq_false h1, Option.bind_some]
    simp [aditref3_Line.j0]
  · rw [decide_eq_false h0, if_neg (by decide)]
    simp [aditref3_Line.j0]
/-- Lines agree, whatever their ends. -/
theorem lines_agree (k : Nat) (hk : 30 ≤ k) (x0 y0 x1 y1 : Int) : ∃ l, grid_Line.f k x0 y0 x1 y1 = some l ∧ aditref3_Line.f k x0 y0 x1 y1 = some l ∧ ((InG x0 y0 ∧ InG x1 y1 ∧ l = lineL x0 y0 x1 y1) ∨ (¬ (InG x0 y0 ∧ InG x1 y1) ∧ l = [])) := by
  by_cases h : InG x0 y0 ∧ InG x1 y1
  · exact ⟨_, line_in k hk _ _ _ _ h.1 h.2, ref_line_in k hk _ _ _ _ h.1 h.2, .inl ⟨h.1, h.2, rfl⟩⟩
  · exact ⟨_, line_out k hk _ _ _ _ h, ref_line_out k hk _ _ _ _ h, .inr ⟨h, rfl⟩⟩

/-! Of a line: its length, its ends, its steps. -/
theorem line_length (x0 y0 x1 y1 : Int) (h0 : InG x0 y0) (h1 : InG x1 y1) : ((lineL x0 y0 x1 y1).length : Int) = stp (x1 - x0) (y1 - y0) + 1 := by
  have := stp_le x0 y0 x1 y1 h0 h1
  unfold lineL
  by_cases hs : stp (x1 - x0) (y1 - y0) = 0
  · rw [if_pos hs, hs]; rfl
  · rw [if_neg hs, List.length_map, List.length_range]
    omega
theorem line_at (x0 y0 x1 y1 : Int) (h0 : InG x0 y0) (h1 : InG x1 y1) (hs : 0 < stp (x1 - x0) (y1 - y0)) (i : Nat) (hi : (i : Int) ≤ stp (x1 - x0) (y1 - y0)) : rd (lineL x0 y0 x1 y1) (i : Int) = lc x0 y0 x1 y1 i := by
  unfold rd lineL
  rw [if_neg (by omega)]
  have hl : i < ((List.range ((stp (x1 - x0) (y1 - y0)).toNat + 1)).map (lc x0 y0 x1 y1)).length := by
    rw [List.length_map, List.length_range]
    omega
  rw [show ((i : Int)).toNat = i by omega, List.getD_eq_getElem?_getD, List.getElem?_eq_getElem hl, Option.getD_some, List.getElem_map, List.getElem_range]
/-- A cell's place. -/
theorem cel_place (x y : Int) (h : InG x y) : cel x y % 24 = x ∧ cel x y / 24 = y ∧ 0 ≤ cel x y ∧ cel x y < 384 := by
  unfold InG at h
  unfold cel
  omega
end Go.Proofs.Ytjpcmpeigoikkaa.Pure

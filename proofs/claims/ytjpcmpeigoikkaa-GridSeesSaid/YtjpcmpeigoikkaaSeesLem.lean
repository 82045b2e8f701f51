/- Plain laws of what is seen: both texts look at the same cells between. No condition beyond the bounds in each statement. -/
import Derived.Test.YtjpcmpeigoikkaaGridLem
import Derived.Test.YtjpcmpeigoikkaaQ15
import Derived.Test.YtjpcmpeigoikkaaQ16
namespace Go.Proofs.Ytjpcmpeigoikkaa.Pure
set_option linter.unusedVariables false
set_option linter.unusedSimpArgs false
open Go.RowKit Go.Proofs.Ytjpcmpeigoikkaa.Q Go.Proofs.YtjpcmpeigoikkaaW.PrintWords Go.Proofs.YtjpcmpeigoikkaaW.PrintLast Go.Proofs.YtjpcmpeigoikkaaW.PrintMore

/-- May a cell be walked on; may it be looked over? -/
def wlk (v : Int) : Bool := decide (1 ≤ v ∧ v ≤ 5)
def clr (v : Int) : Bool := wlk v && v != 2
theorem walk_is (v : Int) : grid_Walk.f v = some (wlk v) := by
  unfold grid_Walk.f wlk
  by_cases h : v ≥ 1
  · rw [if_pos h]
    congr 1
    exact decide_eq_decide.2 ⟨fun x => ⟨h, x⟩, fun x => x.2⟩
  · rw [if_neg h, decide_eq_false (fun x => h x.1)]
theorem walk_ref (v : Int) : aditref3_Walk.f v = some (wlk v) := walk_is v
theorem clear_is (v : Int) : grid_Clear.f v = some (clr v) := by
  unfold grid_Clear.f clr
  rw [walk_is, Option.bind_some]
  cases wlk v <;> simp
theorem clear_ref (v : Int) : aditref3_Clear.f v = some (clr v) := clear_is v
theorem kind_in (c : List Int) (hc : IsCells c) (a : Int) (h0 : 0 ≤ a) (h1 : a < 384) : grid_kind.f c a = some (rd c a) := by
  have hv := hc.2 a.toNat
  unfold grid_kind.f
  rw [if_neg (by omega), if_neg (by have := hc.1; omega), if_pos h0, if_pos (by have := hc.1; omega), w64 (by unfold rd; omega) (by unfold rd; omega)]
theorem at_in (c : List Int) (hc : IsCells c) (x y : Int) (h : InG x y) : aditref3_At.f c x y = some (rd c (cel x y)) := by
  have hv := hc.2 (cel x y).toNat
  have hp := cel_place x y h
  have hl := hc.1
  unfold aditref3_At.f
  rw [in_is, decide_eq_true h, Option.bind_some, if_pos rfl]
  unfold InG at h
  rw [w64 (n := y * 24) (by omega) (by omega), w64 (n := y * 24 + x) (by omega) (by omega), show y * 24 + x = cel x y from rfl, if_neg (by omega), if_pos (by omega), if_pos (by omega), w64 (by unfold rd; omega) (by unfold rd; omega)]
theorem at_cell (c : List Int) (hc : IsCells c) (a : Int) (h0 : 0 ≤ a) (h1 : a < 384) : aditref3_At.f c (Int.tmod a 24) (wrap64 (Int.tdiv a 24)) = some (rd c a) := by
  rw [Int.tmod_eq_emod_of_nonneg h0, Int.tdiv_eq_ediv_of_nonneg h0, w64 (n := a / 24) (by omega) (by omega), at_in c hc _ _ (by unfold InG; omega)]
  congr 2
  unfold cel
  omega
/-- A row of cells' numbers. -/
def InRow (l : List Int) : Prop := l.length ≤ 24 ∧ ∀ i : Nat, i < l.length → 0 ≤ rd l (i : Int) ∧ rd l (i : Int) < 384
theorem line_row (x0 y0 x1 y1 : Int) (h0 : InG x0 y0) (h1 : InG x1 y1) : InRow (lineL x0 y0 x1 y1) := by
  have hlen := line_length x0 y0 x1 y1 h0 h1
  have hle := stp_le x0 y0 x1 y1 h0 h1
  refine ⟨by omega, ?_⟩
  intro i hi
  by_cases hs : stp (x1 - x0) (y1 - y0) = 0
  · have hi0 : i = 0 := by omega
    subst hi0
    have := cel_place x0 y0 h0
    unfold lineL
    rw [if_pos hs]
    show 0 ≤ cel x0 y0 ∧ cel x0 y0 < 384
    omega
  · rw [line_at x0 y0 x1 y1 h0 h1 (by omega) i (by omega)]
    have := cel_place _ _ (on_way x0 y0 x1 y1 i h0 h1 (by omega) (by omega) (by omega))
    unfold lc
    omega
theorem sees_step (c : List Int) (hc : IsCells c) (l : List Int) (hl : InRow l) (k i : Nat) (h : (i : Int) + 1 < l.length) : grid_Sees.l0 (k + 1) c l (i : Int) = if clr (rd c (rd l (i : Int))) = true then grid_Sees.l0 k c l ((i + 1 : Nat) : Int) else some false := by
  have hl1 := hl.1
  have hr := hl.2 i (by omega)
  have en : wrap64 ((i : Int) + 1) = ((i + 1 : Nat) : Int) := by unfold wrap64; omega
  simp only [grid_Sees.l0]
  rw [w64 (n := (l.length : Int) - 1) (by omega) (by omega), if_pos (by omega), if_pos (by omega), if_pos (by omega), kind_in c hc _ hr.1 hr.2, Option.bind_some, clear_is, Option.bind_some, en]
theorem sees_step_ref (c : List Int) (hc : IsCells c) (l : List Int) (hl : InRow l) (k i : Nat) (h : (i : Int) + 1 < l.length) : aditref3_Sees.l0 (k + 1) c l (i : Int) = if clr (rd c (rd l (i : Int))) = true then aditref3_Sees.l0 k c l ((i + 1 : Nat) : Int) else some false := by
  have hl1 := hl.1
  have hr := hl.2 i (by omega)
  have en : wrap64 ((i : Int) + 1) = ((i + 1 : Nat) : Int) := by unfold wrap64; omega
  simp only [aditref3_Sees.l0]
  rw [en, if_pos (by omega), if_pos (by omega), if_pos (by omega), at_cell c hc _ hr.1 hr.2, Option.bind_some, clear_ref, Option.bind_some]
theorem sees_loop (c : List Int) (hc : IsCells c) (l : List Int) (hl : InRow l) (d : Nat) : ∀ (k i : Nat), l.length ≤ i + d → i ≤ 100 → d < k →
    ∃ b, grid_Sees.l0 k c l (i : Int) = some b ∧ aditref3_Sees.l0 k c l (i : Int) = some b ∧ (c = List.replicate 384 1 → b = decide ((l.length : Int) > 0)) ∧ (c = List.replicate 384 0 → b = if (i : Int) + 1 < l.length then false else decide ((l.length : Int) > 0)) := by
  have hl1 := hl.1
  induction d with
  | zero =>
    intro k i hi hb hk
    obtain ⟨k, rfl⟩ : ∃ m, k = m + 1 := ⟨k - 1, by omega⟩
    refine ⟨_, ?_, ?_, fun _ => rfl, fun _ => ?_⟩
    · simp only [grid_Sees.l0]
      rw [w64 (n := (l.length : Int) - 1) (by omega) (by omega), if_neg (by omega)]
    · simp only [aditref3_Sees.l0]
      rw [w64 (n := (i : Int) + 1) (by omega) (by omega), if_neg (by omega)]
    · rw [if_neg (by omega)]
  | succ d ih =>
    intro k i hi hb hk
    obtain ⟨k, rfl⟩ : ∃ m, k = m + 1 := ⟨k - 1, by omega⟩
    by_cases hlt : (i : Int) + 1 < l.length
    · have hr := hl.2 i (by omega)
      obtain ⟨b, e1, e2, e3, e4⟩ := ih k (i + 1) (by omega) (by omega) (by omega)
      rw [sees_step c hc l hl k i hlt, sees_step_ref c hc l hl k i hlt, e1, e2]
      cases hcl : clr (rd c (rd l (i : Int))) with
      | true =>
        refine ⟨b, rfl, rfl, e3, fun hz => ?_⟩
        exfalso
        have hv : rd c (rd l (i : Int)) = 0 := by
          rw [hz]
          unfold rd
          rw [List.getD_eq_getElem?_getD, List.getElem?_replicate]
          split <;> rfl
        rw [hv] at hcl
        exact absurd hcl (by decide)
      | false =>
        refine ⟨false, rfl, rfl, fun ho => ?_, fun _ => by rw [if_pos hlt]⟩
        exfalso
        have hv : rd c (rd l (i : Int)) = 1 := by
          rw [ho]
          have h4 : (rd l (i : Int)).toNat < 384 := by omega
          show (List.replicate 384 (1 : Int)).getD (rd l (i : Int)).toNat 0 = 1
          rw [List.getD_eq_getElem?_getD, List.getElem?_replicate, if_pos h4]
          rfl
        rw [hv] at hcl
        exact absurd hcl (by decide)
    · refine ⟨_, ?_, ?_, fun _ => rfl, fun _ => ?_⟩
      · simp only [grid_Sees.l0]
        rw [w64 (n := (l.length : Int) - 1) (by omega) (by omega), if_neg (by omega)]
      · simp only [aditref3_Sees.l0]
        rw [w64 (n := (i : Int) + 1) (by omega) (by omega), if_neg (by omega)]
      · rw [if_neg hlt]
/-- Both look alike, whatever the ends. -/
theorem sees_agree (k : Nat) (hk : 60 ≤ k) (c : List Int) (hc : IsCells c) (x0 y0 x1 y1 : Int) : ∃ b, grid_Sees.f k c x0 y0 x1 y1 = some b ∧ aditref3_Sees.f k c x0 y0 x1 y1 = some b ∧
    (InG x0 y0 → InG x1 y1 → (c = List.replicate 384 1 → b = true) ∧ (c = List.replicate 384 0 → b = decide (stp (x1 - x0) (y1 - y0) ≤ 1))) := by
  obtain ⟨l, e1, e2, hl⟩ := lines_agree k (by omega) x0 y0 x1 y1
  have hrow : InRow l := by
    rcases hl with ⟨h0, h1, rfl⟩ | ⟨_, rfl⟩
    · exact line_row x0 y0 x1 y1 h0 h1
    · exact ⟨by simp, fun i hi => by simp at hi⟩
  obtain ⟨b, f1, f2, f3, f4⟩ := sees_loop c hc l hrow 30 k 1 (by have := hrow.1; omega) (by omega) (by omega)
  refine ⟨b, ?_, ?_, ?_⟩
  · unfold grid_Sees.f
    rw [e1, Option.bind_some]; exact f1
  · unfold aditref3_Sees.f
    rw [e2, Option.bind_some]; exact f2
  · intro h0 h1
    rcases hl with ⟨_, _, rfl⟩ | ⟨hn, _⟩
    · have hlen := line_length x0 y0 x1 y1 h0 h1
      have hle := stp_le x0 y0 x1 y1 h0 h1
      refine ⟨fun ho => ?_, fun hz => ?_⟩
      · rw [f3 ho]
        exact decide_eq_true (by omega)
      · rw [f4 hz]
        by_cases hs : stp (x1 - x0) (y1 - y0) ≤ 1
        · rw [if_neg (by omega), decide_eq_true hs, decide_eq_true (by omega)]
        · rw [if_pos (by omega), decide_eq_false hs]
    · exact absurd ⟨h0, h1⟩ hn
theorem ones_cells : IsCells (List.replicate 384 1) := ⟨List.length_replicate, fun i => by
  rw [List.getD_eq_getElem?_getD, List.getElem?_replicate]
  split
  · exact ⟨by decide, by decide⟩
  · exact ⟨Int.le_refl _, by decide⟩⟩
end Go.Proofs.Ytjpcmpeigoikkaa.Pure

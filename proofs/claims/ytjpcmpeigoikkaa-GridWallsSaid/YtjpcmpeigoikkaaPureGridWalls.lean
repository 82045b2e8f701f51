/- The law GridWalls, in plain words (own work). -/
import Derived.Test.YtjpcmpeigoikkaaGridLaw
namespace Go.Proofs.Ytjpcmpeigoikkaa.Pure
open Go Go.Proofs.Ytjpcmpeigoikkaa.Mx Go.Proofs.Ytjpcmpeigoikkaa.Pc Go.Proofs.Ytjpcmpeigoikkaa.Run Go.Proofs.Ytjpcmpeigoikkaa.Field
set_option linter.unusedVariables false
/-- A list by its cells. -/
def tab (F : Int → Int) : List Int := (List.range 384).map fun i : Nat => F (i : Int)
theorem tab_len (F : Int → Int) : (tab F).length = 384 := by simp [tab]
theorem tab_rd (F : Int → Int) (n : Int) (hn : GC n) : rd (tab F) n = F n := by
  unfold GC at hn
  unfold Field.rd tab
  rw [List.getD_eq_getElem?_getD, List.getElem?_map, List.getElem?_range (by omega)]
  simp only [Option.map_some, Option.getD_some]
  congr 1
  omega
theorem tab_field {opn T : Int → Prop} {F : Int → Int} (lo : ∀ n, GC n → -1 ≤ F n) (zero : ∀ n, GC n → (F n = 0 ↔ T n)) (up : ∀ n, GC n → 0 < F n → opn n ∧ ∃ m, GC m ∧ adj m n ∧ F m = F n - 1)
    (down : ∀ m n, GC m → GC n → 0 ≤ F m → adj m n → opn n → 0 ≤ F n ∧ F n ≤ F m + 1) : IsField opn T (tab F) :=
  ⟨⟨tab_len F, fun n hn => by rw [tab_rd F n hn]; exact lo n hn, fun n hn => by rw [tab_rd F n hn]; exact zero n hn, fun n hn h => by
    rw [tab_rd F n hn] at h ⊢
    obtain ⟨o, m, m1, m2, m3⟩ := up n hn h
    exact ⟨o, m, m1, m2, by rw [tab_rd F m m1]; exact m3⟩⟩, fun m n hm hn h1 h2 h3 => by
    rw [tab_rd F m hm] at h1 ⊢
    rw [tab_rd F n hn]
    exact down m n hm hn h1 h2 h3⟩
theorem adj_cases {m n : Int} (hn : GC n) (h : adj m n) : (24 ≤ m ∧ n = m - 24) ∨ (m % 24 ≤ 22 ∧ n = m + 1) ∨ (m < 360 ∧ n = m + 24) ∨ (1 ≤ m % 24 ∧ n = m - 1) := by
  obtain ⟨d, hd, e⟩ := h
  unfold GC at hn
  match d, hd with
  | 0, _ => unfold nbr at e; simp only at e; split at e <;> omega
  | 1, _ => unfold nbr at e; simp only at e; split at e <;> omega
  | 2, _ => unfold nbr at e; simp only at e; split at e <;> omega
  | 3, _ => unfold nbr at e; simp only at e; split at e <;> omega
theorem adj_e {m : Int} (h : m % 24 ≤ 22) : adj m (m + 1) := ⟨1, by decide, by unfold nbr; simp only; rw [if_pos h]⟩
theorem adj_s {m : Int} (h : m < 360) : adj m (m + 24) := ⟨2, by decide, by unfold nbr; simp only; rw [if_pos h]⟩
theorem adj_n {m : Int} (h : 24 ≤ m) : adj m (m - 24) := ⟨0, by decide, by unfold nbr; simp only; rw [if_pos h]⟩
def ab (a b : Int) : Int := max (a - b) (b - a)
/-- How far behind the wall's one side. -/
def F1 (col r n : Int) : Int := if n % 24 < col then n % 24 + ab (n / 24) r else -1
/-- How far through the gap. -/
def F2 (col gap r n : Int) : Int :=
  if n % 24 < col then n % 24 + ab (n / 24) r
  else if n % 24 = col then (if n / 24 = gap then col + ab gap r else -1)
  else col + ab gap r + (n % 24 - col) + ab (n / 24) gap
section
variable {col gap r : Int} (hc1 : 1 ≤ col) (hc2 : col ≤ 22) (hg1 : 0 ≤ gap) (hg2 : gap < 16) (hr1 : 0 ≤ r) (hr2 : r < 16)
include hc1 hc2 hr1 hr2 in
theorem field1 {opn : Int → Prop} (ho : ∀ n, GC n → n % 24 < col → opn n) (hw : ∀ n, GC n → n % 24 = col → ¬ opn n) : IsField opn (fun n => n = r * 24) (tab (F1 col r)) := by
  refine tab_field (fun n hn => ?_) (fun n hn => ?_) (fun n hn h => ?_) (fun m n hm hn h1 h2 h3 => ?_)
  · unfold GC at hn; unfold F1 ab; split <;> omega
  · unfold GC at hn; unfold F1 ab; split <;> omega
  · have hn' := hn
    unfold GC at hn'
    unfold F1 ab at h
    split at h
    · rename_i c
      refine ⟨ho n hn c, ?_⟩
      by_cases x0 : n % 24 > 0
      · have := adj_e (m := n - 1) (by omega)
        rw [Int.sub_add_cancel] at this
        refine ⟨n - 1, by unfold GC; omega, this, ?_⟩
        unfold F1 ab
        rw [if_pos (by omega), if_pos c]
        omega
      · by_cases y0 : n / 24 > r
        · have := adj_s (m := n - 24) (by omega)
          rw [Int.sub_add_cancel] at this
          refine ⟨n - 24, by unfold GC; omega, this, ?_⟩
          unfold F1 ab
          rw [if_pos (by omega), if_pos c]
          omega
        · have := adj_n (m := n + 24) (by omega)
          rw [Int.add_sub_cancel] at this
          refine ⟨n + 24, by unfold GC; omega, this, ?_⟩
          unfold F1 ab
          rw [if_pos (by omega), if_pos c]
          omega
    · omega
  · have hnw : n % 24 ≠ col := fun e => hw n hn e h3
    have hm' := hm
    have hn' := hn
    unfold GC at hm' hn'
    unfold F1 ab at h1 ⊢
    split at h1
    · rcases adj_cases hn h2 with q | q | q | q
      · rw [if_pos (by omega), if_pos (by omega)]; omega
      · rw [if_pos (by omega), if_pos (by omega)]; omega
      · rw [if_pos (by omega), if_pos (by omega)]; omega
      · rw [if_pos (by omega), if_pos (by omega)]; omega
    · omega
include hc1 hc2 hg1 hg2 hr1 hr2 in
theorem field2 {opn : Int → Prop} (ho : ∀ n, GC n → n % 24 ≠ col → opn n) (hd : opn (gap * 24 + col)) (hw : ∀ n, GC n → n % 24 = col → n / 24 ≠ gap → ¬ opn n) : IsField opn (fun n => n = r * 24) (tab (F2 col gap r)) := by
  refine tab_field (fun n hn => ?_) (fun n hn => ?_) (fun n hn h => ?_) (fun m n hm hn h1 h2 h3 => ?_)
  · unfold GC at hn; unfold F2 ab; split
    · omega
    · split
      · split <;> omega
      · omega
  · unfold GC at hn; unfold F2 ab; split
    · omega
    · split
      · split <;> omega
      · omega
  · have hn' := hn
    unfold GC at hn'
    unfold F2 ab at h
    split at h
    · rename_i c
      refine ⟨ho n hn (by omega), ?_⟩
      by_cases x0 : n % 24 > 0
      · have := adj_e (m := n - 1) (by omega)
        rw [Int.sub_add_cancel] at this
        refine ⟨n - 1, by unfold GC; omega, this, ?_⟩
        unfold F2 ab
        rw [if_pos (by omega), if_pos c]
        omega
      · by_cases y0 : n / 24 > r
        · have := adj_s (m := n - 24) (by omega)
          rw [Int.sub_add_cancel] at this
          refine ⟨n - 24, by unfold GC; omega, this, ?_⟩
          unfold F2 ab
          rw [if_pos (by omega), if_pos c]
          omega
        · have := adj_n (m := n + 24) (by omega)
          rw [Int.add_sub_cancel] at this
          refine ⟨n + 24, by unfold GC; omega, this, ?_⟩
          unfold F2 ab
          rw [if_pos (by omega), if_pos c]
          omega
    · rename_i c
      split at h
      · rename_i c2
        split at h
        · rename_i c3
          refine ⟨by rw [show n = gap * 24 + col by omega]; exact hd, ?_⟩
          have := adj_e (m := n - 1) (by omega)
          rw [Int.sub_add_cancel] at this
          refine ⟨n - 1, by unfold GC; omega, this, ?_⟩
          unfold F2 ab
          rw [if_pos (by omega), if_neg c, if_pos c2, if_pos c3]
          omega
        · omega
      · rename_i c2
        refine ⟨ho n hn c2, ?_⟩
        by_cases x0 : n % 24 > col + 1
        · have := adj_e (m := n - 1) (by omega)
          rw [Int.sub_add_cancel] at this
          refine ⟨n - 1, by unfold GC; omega, this, ?_⟩
          unfold F2 ab
          rw [if_neg (by omega), if_neg (by omega), if_neg c, if_neg c2]
          omega
        · by_cases y0 : n / 24 = gap
          · have := adj_e (m := n - 1) (by omega)
            rw [Int.sub_add_cancel] at this
            refine ⟨n - 1, by unfold GC; omega, this, ?_⟩
            unfold F2 ab
            rw [if_neg (by omega), if_pos (by omega), if_pos (by omega), if_neg c, if_neg c2]
            omega
          · by_cases y1 : n / 24 > gap
            · have := adj_s (m := n - 24) (by omega)
              rw [Int.sub_add_cancel] at this
              refine ⟨n - 24, by unfold GC; omega, this, ?_⟩
              unfold F2 ab
              rw [if_neg (by omega), if_neg (by omega), if_neg c, if_neg c2]
              omega
            · have := adj_n (m := n + 24) (by omega)
              rw [Int.add_sub_cancel] at this
              refine ⟨n + 24, by unfold GC; omega, this, ?_⟩
              unfold F2 ab
              rw [if_neg (by omega), if_neg (by omega), if_neg c, if_neg c2]
              omega
  · have hnw : n % 24 = col → n / 24 = gap := fun e => by
      by_cases q : n / 24 = gap
      · exact q
      · exact absurd h3 (hw n hn e q)
    have hm' := hm
    have hn' := hn
    unfold GC at hm' hn'
    unfold F2 ab at h1 ⊢
    rcases adj_cases hn h2 with q | q | q | q <;> (repeat' split at h1) <;> (repeat' split) <;> omega
end
theorem field_T {opn T T' : Int → Prop} {f : List Int} (h : IsField opn T f) (e : ∀ n, GC n → (T n ↔ T' n)) : IsField opn T' f :=
  ⟨⟨h.len, h.lo, fun n hn => (h.zero n hn).trans (e n hn), h.up⟩, h.down⟩
/-- A floor that is clear. -/
theorem full_one : OK (f14 [1]) fun y => y.1.length = 384 ∧ ∀ n, GC n → Field.rd y.1 n = 1 := by
  unfold f14 f14.L1
  refine OK.callR (R := fun y => ∃ c : List Int, (c.length = 384 ∧ ∀ n, GC n → Field.rd c n = 1) ∧ y = Sum.inl (c, ())) ?_ (fun y ⟨c, hc, e⟩ => by subst e; exact OK.ret hc)
  refine OK.loop (fun j : Nat × List Int => ([1], (j.1 : Int), j.2, ())) (fun j => j.1 ≤ 384 ∧ j.2.length = 384 ∧ ∀ k, k < j.1 → j.2.getD k 0 = 1) (fun j => 384 - j.1) (fun rec j hj ih => ?_) (0, List.replicate (Int.toNat 384) 0) rfl ⟨by decide, by rw [List.length_replicate]; rfl, fun k hk => by cases hk⟩ (by decide)
  obtain ⟨i, f⟩ := j
  obtain ⟨hi, hl, hv⟩ := hj
  dsimp only at hi hl hv
  simp only [bif_cl, Int.toNat_natCast]
  by_cases c0 : (i : Int) < 384
  · have e1 : ∀ x : Int, Int.tmod x ((([1] : List Int).length : Nat) : Int) = 0 := fun x => Int.tmod_one x
    rw [if_pos c0, if_pos (by decide), if_neg (by decide), e1, inR (by decide), inR (by omega), wr (by omega)]
    refine ih (i + 1, f.set i 1) ⟨by dsimp only; omega, by simpa using hl, fun k hk => ?_⟩ (by dsimp only; omega) _ rfl
    dsimp only at hk ⊢
    rw [getD_set]
    split
    · rfl
    · exact hv k (by omega)
  · rw [if_neg c0]
    refine OK.ret ⟨f, ⟨hl, fun n hn => ?_⟩, rfl⟩
    unfold GC at hn
    exact hv n.toNat (by omega)
theorem far_eq (a b : Int) (ha : GC a) (hb : GC b) : f21 a b = some (ab (a % 24) (b % 24) + ab (a / 24) (b / 24), ()) := by
  unfold GC at ha hb
  unfold f21 ab
  rw [Int.tmod_eq_emod_of_nonneg ha.1, Int.tmod_eq_emod_of_nonneg hb.1, Int.tdiv_eq_ediv_of_nonneg ha.1, Int.tdiv_eq_ediv_of_nonneg hb.1]
  rw [maxI_eq, maxI_eq]
  simp (disch := omega) only [wr]
  rw [show (0 : Int) - (a % 24 - b % 24) = b % 24 - a % 24 by omega, show (0 : Int) - (a / 24 - b / 24) = b / 24 - a / 24 by omega]
theorem GridWalls (a0 : Int) (w0 : (Lit.int .i64 a0).wf = true) (a1 : Int) (w1 : (Lit.int .i64 a1).wf = true) (a2 : Int) (w2 : (Lit.int .i64 a2).wf = true) : f8 a0 a1 a2 = some (true, ()) := by
  unfold f8
  have b0 := within_b a0 22 (by decide)
  have b1 := within_b a1 16 (by decide)
  have b2 := within_b a2 16 (by decide)
  rw [known_eq, within_eq _ _ (by decide) (by decide), within_eq _ _ (by decide) (by decide)]
  simp only [Option.bind_some, Bool.not_true, cond_false]
  rw [wr (by omega)]
  generalize hcol : 1 + within a0 22 = col
  generalize within a1 16 = gap at *
  have hc1 : 1 ≤ col := by omega
  have hc2 : col ≤ 22 := by omega
  have hg1 : 0 ≤ gap := by omega
  have hg2 : gap < 16 := by omega
  refine OK.eq ?_
  refine OK.callR full_one fun y hy => ?_
  obtain ⟨cells, _⟩ := y
  obtain ⟨hcl, hcv⟩ := hy
  dsimp only at hcl hcv ⊢
  unfold f8.L2
  refine OK.loop (fun j : Nat × List Int => (col, gap, a2, (j.1 : Int), j.2, ())) (fun j => j.1 ≤ 16 ∧ j.2.length = 384 ∧ ∀ n, GC n → Field.rd j.2 n = if n % 24 = col ∧ n / 24 < (j.1 : Int) then 0 else 1) (fun j => 16 - j.1) (fun rec j hj ih => ?_) (0, cells) rfl ⟨Nat.zero_le _, hcl, fun n hn => by rw [hcv n hn, if_neg (by unfold GC at hn; dsimp only; omega)]⟩ (by dsimp only; decide)
  obtain ⟨y, c⟩ := j
  obtain ⟨hy, hl, hv⟩ := hj
  dsimp only at hy hl hv
  simp only [bif_cl]
  by_cases c0 : (y : Int) < 16
  · rw [if_pos c0]
    have w1 : IntKind.wrap .i64 ((y : Int) * 24) = (y : Int) * 24 := wr (by omega)
    have w2 : IntKind.wrap .i64 ((y : Int) * 24 + col) = (y : Int) * 24 + col := wr (by omega)
    have w3 : IntKind.wrap .i64 ((y : Int) + 1) = (y : Int) + 1 := wr (by omega)
    rw [w1, w2, w3, inR (by omega), cond_true]
    refine ih (y + 1, c.set ((y : Int) * 24 + col).toNat 0) ⟨by dsimp only; omega, by simpa using hl, fun n hn => ?_⟩ (by dsimp only; omega) _ (by simp)
    dsimp only
    rw [rd_set c hl _ n 0 ⟨by omega, by omega⟩ hn, hv n hn]
    unfold GC at hn
    by_cases e : n = (y : Int) * 24 + col
    · rw [if_pos e, if_pos (by omega)]
    · rw [if_neg e]
      by_cases e2 : n % 24 = col ∧ n / 24 < (y : Int)
      · rw [if_pos e2, if_pos (by omega)]
      · rw [if_neg e2, if_neg (by omega)]
  · obtain rfl : y = 16 := by omega
    rw [if_neg c0, within_eq _ _ (by decide) (by decide)]
    simp only [Option.bind_some]
    generalize within a2 16 = r at *
    have hr1 : 0 ≤ r := by omega
    have hr2 : r < 16 := by omega
    have w1 : IntKind.wrap .i64 (r * 24) = r * 24 := wr (by omega)
    have w2 : IntKind.wrap .i64 (gap * 24) = gap * 24 := wr (by omega)
    have w3 : IntKind.wrap .i64 (gap * 24 + col) = gap * 24 + col := wr (by omega)
    rw [w1, w2, w3]
    have gR : GC (r * 24) := ⟨by omega, by omega⟩
    have gG : GC (gap * 24 + col) := ⟨by omega, by omega⟩
    have hw : ∀ n, GC n → Field.rd c n = if n % 24 = col then 0 else 1 := fun n hn => by
      rw [hv n hn]
      unfold GC at hn
      by_cases e : n % 24 = col
      · rw [if_pos (by omega), if_pos e]
      · rw [if_neg (by omega), if_neg e]
    have cb1 : CB c := fun i => by
      by_cases q : i < 384
      · have := hw (i : Int) ⟨by omega, by omega⟩
        unfold Field.rd at this
        rw [Int.toNat_natCast] at this
        rw [this]; split <;> decide
      · rw [List.getD_eq_getElem?_getD, List.getElem?_eq_none (by omega)]; decide
    -- through a wall nothing is reached
    refine OK.callR (field_is c cb1 [] [r * 24] (by simp)) fun y1 hF => ?_
    obtain ⟨f, _⟩ := y1
    dsimp only at hF ⊢
    have isT : ∀ c' : List Int, Field.rd c' (r * 24) = 1 → ∀ n, GC n → (IsT c' [r * 24] n ↔ n = r * 24) := fun c' hc' n hn => by
      unfold IsT
      rw [List.mem_singleton]
      exact ⟨fun h => h.1, fun h => ⟨h, by rw [h, hc']; rfl⟩⟩
    have e1 : f = tab (F1 col r) := by
      refine field_one (field_T hF (isT c (by rw [hw _ gR, if_neg (by omega)]))) (field1 hc1 hc2 hr1 hr2 (fun n hn h => ⟨by rw [hw n hn, if_neg (by omega)]; rfl, fun q => by cases q.2⟩) (fun n hn h q => ?_))
      have := q.1
      rw [hw n hn, if_pos h] at this
      cases this
    subst e1
    have hl2 : (c.set (gap * 24 + col).toNat 2).length = 384 := by simpa using hl
    have hw2 : ∀ n, GC n → Field.rd (c.set (gap * 24 + col).toNat 2) n = if n = gap * 24 + col then 2 else if n % 24 = col then 0 else 1 := fun n hn => by
      rw [rd_set c hl _ n 2 gG hn, hw n hn]
    generalize hc' : c.set (gap * 24 + col).toNat 2 = c' at *
    have cb2 : CB c' := fun i => by
      by_cases q : i < 384
      · have := hw2 (i : Int) ⟨by omega, by omega⟩
        unfold Field.rd at this
        rw [Int.toNat_natCast] at this
        rw [this]; (repeat' split) <;> decide
      · rw [List.getD_eq_getElem?_getD, List.getElem?_eq_none (by omega)]; decide
    rw [inR (by unfold GC at gG; omega), cond_true]
    refine OK.callR (field_is c' cb2 [] [r * 24] (by simp)) fun y2 hF2 => ?_
    obtain ⟨g, _⟩ := y2
    dsimp only at hF2 ⊢
    have hr3 : Field.rd c' (r * 24) = 1 := by rw [hw2 _ gR, if_neg (by omega), if_neg (by omega)]
    have e2 : g = tab (F2 col gap r) := by
      refine field_one (field_T hF2 (isT c' hr3)) (field2 hc1 hc2 hg1 hg2 hr1 hr2 (fun n hn h => ⟨by rw [hw2 n hn, if_neg (by omega), if_neg h]; rfl, fun q => by cases q.2⟩) ⟨by rw [hw2 _ gG, if_pos rfl]; rfl, fun q => by cases q.2⟩ (fun n hn h1 h2 q => ?_))
      have := q.1
      rw [hw2 n hn, if_neg (by omega), if_pos h1] at this
      cases this
    subst e2
    have hbl : (List.replicate (Int.toNat 384) false).length = 384 := by rw [List.length_replicate]; rfl
    rw [inR (by unfold GC at gG; rw [hbl]; omega), cond_true]
    generalize hb : (List.replicate (Int.toNat 384) false).set (gap * 24 + col).toNat true = b
    have hbg : ∀ n, GC n → b.getD n.toNat false = decide (n = gap * 24 + col) := fun n hn => by
      unfold GC at gG hn
      rw [← hb, getD_set]
      by_cases e : n = gap * 24 + col
      · subst e
        rw [if_pos ⟨rfl, by rw [hbl]; omega⟩]
        simp
      · rw [if_neg (by omega), decide_eq_false e]
        rw [List.getD_eq_getElem?_getD, List.getElem?_replicate]
        split <;> rfl
    have hbl2 : b.length = 384 := by rw [← hb, List.length_set, hbl]
    refine OK.callR (field_is c' cb2 b [r * 24] (by simp)) fun y3 hF3 => ?_
    obtain ⟨h, _⟩ := y3
    dsimp only at hF3 ⊢
    have e3 : h = tab (F1 col r) := by
      refine field_one (field_T hF3 (isT c' hr3)) (field1 hc1 hc2 hr1 hr2 (fun n hn h => ⟨by rw [hw2 n hn, if_neg (by omega), if_neg (by omega)]; rfl, fun q => ?_⟩) (fun n hn h q => ?_))
      · have := q.2
        rw [hbg n hn, decide_eq_true_eq] at this
        omega
      · by_cases e : n = gap * 24 + col
        · refine q.2 ⟨by unfold GC at hn; omega, ?_⟩
          rw [hbg n hn, decide_eq_true e]
        · have := q.1
          rw [hw2 n hn, if_neg e, if_pos h] at this
          cases this
    subst e3
    unfold f8.L1
    refine OK.loop (fun i : Nat => (col, gap, r * 24, (i : Int), tab (F1 col r), tab (F2 col gap r), tab (F1 col r), ())) (fun i => i ≤ 384) (fun i => 384 - i) (fun rec i hi ih => ?_) 0 rfl (Nat.zero_le _) (by decide)
    simp only [bif_cl]
    by_cases c1 : (i : Int) < 384
    · have hi : i < 384 := by omega
      have gI : GC (i : Int) := ⟨by omega, c1⟩
      have t1 : (tab (F1 col r)).getD (i : Int).toNat 0 = F1 col r i := tab_rd _ _ gI
      have t2 : (tab (F2 col gap r)).getD (i : Int).toNat 0 = F2 col gap r i := tab_rd _ _ gI
      have w4 : IntKind.wrap .i64 ((i : Int) + 1) = (i : Int) + 1 := wr (by omega)
      have hx : Int.tmod (i : Int) 24 = (i : Int) % 24 := Int.tmod_eq_emod_of_nonneg (by omega)
      have f1 := far_eq (r * 24) (gap * 24 + col) gR gG
      have f2 := far_eq (gap * 24 + col) i gG gI
      have f3 := far_eq (r * 24) i gR gI
      have i1 : inRange (i : Int) (tab (F1 col r)).length = true := inR (by rw [tab_len]; omega)
      have i2 : inRange (i : Int) (tab (F2 col gap r)).length = true := inR (by rw [tab_len]; omega)
      have go : OK (rec (col, gap, r * 24, (i : Int) + 1, tab (F1 col r), tab (F2 col gap r), tab (F1 col r), ())) fun b => b = (true, ()) := ih (i + 1) (by omega) (by omega) _ (by simp)
      simp only [hx, t1, t2, i1, i2, w2, w3, w4, f1, f2, f3, cond_true, Option.bind_some]
      rw [if_pos c1]
      unfold GC at gR gG gI
      by_cases c2 : (i : Int) % 24 > col
      · have v1 : F1 col r i = -1 := by unfold F1; rw [if_neg (by omega)]
        have v2 : F2 col gap r i = ab (r * 24 % 24) ((gap * 24 + col) % 24) + ab (r * 24 / 24) ((gap * 24 + col) / 24) + (ab ((gap * 24 + col) % 24) ((i : Int) % 24) + ab ((gap * 24 + col) / 24) ((i : Int) / 24)) := by
          unfold F2
          rw [if_neg (by omega), if_neg (by omega)]
          unfold ab
          omega
        have w5 : IntKind.wrap .i64 (ab (r * 24 % 24) ((gap * 24 + col) % 24) + ab (r * 24 / 24) ((gap * 24 + col) / 24) + (ab ((gap * 24 + col) % 24) ((i : Int) % 24) + ab ((gap * 24 + col) / 24) ((i : Int) / 24))) = F2 col gap r i := by
          rw [v2]
          exact wr (by unfold ab; omega)
        rw [if_pos c2, v1, w5]
        simp only [bne_self_eq_false, cond_false]
        rw [if_neg (by omega)]
        exact go
      · rw [if_neg c2]
        by_cases c3 : (i : Int) % 24 < col
        · have v1 : F1 col r i = ab (r * 24 % 24) ((i : Int) % 24) + ab (r * 24 / 24) ((i : Int) / 24) := by
            unfold F1 ab
            rw [if_pos c3]
            omega
          rw [if_pos c3, v1]
          simp only [bne_self_eq_false, cond_false]
          exact go
        · rw [if_neg c3]
          exact go
    · rw [if_neg c1]
      exact OK.ret rfl
end Go.Proofs.Ytjpcmpeigoikkaa.Pure

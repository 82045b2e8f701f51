/- The law GoodsBuys, in plain words (own work). -/
import Derived.Test.YtdbfecfcoephoaaGoodsF
namespace Go.Proofs.Ytdbfecfcoephoaa.Pure
open Go Go.Proofs.Ytdbfecfcoephoaa.Mx Go.Proofs.Ytdbfecfcoephoaa.Pc Go.Proofs.Ytdbfecfcoephoaa.Run Go.Proofs.Ytdbfecfcoephoaa.Field Go.Proofs.Ytdbfecfcoephoaa.Gen Go.Proofs.Ytdbfecfcoephoaa.GenL Go.Proofs.Ytdbfecfcoephoaa.Fl Go.Proofs.Ytdbfecfcoephoaa.Wd Go.Proofs.Ytdbfecfcoephoaa.Gd
set_option linter.unusedVariables false
set_option linter.unusedSimpArgs false
set_option maxHeartbeats 1000000
/-- Wares in the rows below m, of which b are bought; n swords in the bag. -/
def sh (m b n : Nat) : List ItT := (List.range 40).map fun i : Nat => if i < m then (if i < b then (1, 2, 0, (n : Int) + i) else (1, 4, (i : Int), 0)) else if 10 ≤ i ∧ i < 10 + n then (2, 2, 0, (i : Int) - 10) else iN
theorem sh_len (m b n : Nat) : (sh m b n).length = 40 := by simp [sh]
theorem sh_get (m b n : Nat) {i : Nat} (hi : i < 40) : (sh m b n).getD i iN = if i < m then (if i < b then (1, 2, 0, (n : Int) + i) else (1, 4, (i : Int), 0)) else if 10 ≤ i ∧ i < 10 + n then (2, 2, 0, (i : Int) - 10) else iN := by
  unfold sh
  rw [List.getD_eq_getElem?_getD, List.getElem?_map, List.getElem?_range hi]
  rfl
theorem sh_none : sh 0 0 0 = List.replicate 40 iN := items_ext (sh_len _ _ _) (by simp) fun i hi => by
  rw [sh_get _ _ _ hi, rep_get, if_neg (by omega), if_neg (by omega)]
theorem sh_ware (m : Nat) (hm : m < 3) : (sh m 0 0).set m (1, 4, (m : Int), 0) = sh (m + 1) 0 0 := items_ext (by rw [List.length_set]; exact sh_len _ _ _) (sh_len _ _ _) fun i hi => by
  rw [set_get (sh_len _ _ _) (by omega), sh_get _ _ _ hi, sh_get _ _ _ hi]
  by_cases z : m = i
  · rw [if_pos z, if_pos (by omega), if_neg (by omega), z]
  · rw [if_neg z]
    by_cases y : i < m
    · rw [if_pos y, if_pos (show i < m + 1 by omega)]
    · rw [if_neg y, if_neg (show ¬ i < m + 1 by omega)]
theorem sh_sword (n : Nat) (hn : n < 4) : (sh 3 0 n).set (10 + n) (2, 2, 0, (n : Int)) = sh 3 0 (n + 1) := items_ext (by rw [List.length_set]; exact sh_len _ _ _) (sh_len _ _ _) fun i hi => by
  rw [set_get (sh_len _ _ _) (by omega), sh_get _ _ _ hi, sh_get _ _ _ hi]
  by_cases z : 10 + n = i
  · rw [if_pos z, if_neg (by omega), if_pos (by omega), show (n : Int) = (i : Int) - 10 by omega]
  · rw [if_neg z]
    by_cases y : i < 3
    · rw [if_pos y, if_pos y, if_neg (by omega), if_neg (by omega)]
    · rw [if_neg y, if_neg y]
      by_cases y2 : 10 ≤ i ∧ i < 10 + n
      · rw [if_pos y2, if_pos (by omega)]
      · rw [if_neg y2, if_neg (by omega)]
theorem sh_buy (b n : Nat) (hb : b < 3) : (sh 3 b n).set b (1, 2, 0, (n : Int) + b) = sh 3 (b + 1) n := items_ext (by rw [List.length_set]; exact sh_len _ _ _) (sh_len _ _ _) fun i hi => by
  rw [set_get (sh_len _ _ _) (by omega), sh_get _ _ _ hi, sh_get _ _ _ hi]
  by_cases z : b = i
  · rw [if_pos z, if_pos (by omega), if_pos (by omega), z]
  · rw [if_neg z]
    by_cases y : i < 3
    · rw [if_pos y, if_pos y]
      by_cases y2 : i < b
      · rw [if_pos y2, if_pos (by omega)]
      · rw [if_neg y2, if_neg (by omega)]
    · rw [if_neg y, if_neg y]
theorem pr {w a x w' a' x' : Int} (h : ((w, a, x) : Int × Int × Int) = (w', a', x')) : w = w' ∧ a = a' ∧ x = x' := by
  simp only [Prod.mk.injEq] at h
  exact h
theorem sh_ok (c : List Int) (n : Nat) (hn : n ≤ 4) : ItsOk c (sh 3 0 n) := by
  have g : ∀ i, i < 40 → (sh 3 0 n).getD i iN = if i < 3 then (1, 4, (i : Int), 0) else if 10 ≤ i ∧ i < 10 + n then (2, 2, 0, (i : Int) - 10) else iN := fun i hi => by
    rw [sh_get _ _ _ hi]
    by_cases y : i < 3
    · rw [if_pos y, if_pos y, if_neg (by omega)]
    · rw [if_neg y, if_neg y]
  refine ⟨sh_len _ _ _, fun i hi => ?_, fun i j hi hj hne he => ?_⟩
  · rw [g i hi]
    split
    · exact .inr ⟨by show (1 : Int) ≤ 1; decide, by show (1 : Int) ≤ 4; decide, .inr (.inr (.inr ⟨rfl, by show (0 : Int) ≤ i; omega, by show (i : Int) < 3; omega, rfl, by show ¬ (1 : Int) = 4; decide⟩))⟩
    · split
      · exact .inr ⟨by show (1 : Int) ≤ 2; decide, by show (2 : Int) ≤ 4; decide, .inr (.inl ⟨rfl, by show (0 : Int) ≤ 0; decide, by show (0 : Int) < 4; decide, by show (0 : Int) ≤ (i : Int) - 10; omega, by show (i : Int) - 10 < 4; omega, by show ¬ (2 : Int) = 4; decide⟩)⟩
      · exact .inl rfl
  · rw [g i hi] at hne he
    rw [g j hj] at he
    by_cases i3 : i < 3
    · rw [if_pos i3] at he
      by_cases j3 : j < 3
      · rw [if_pos j3] at he
        have := pr he
        omega
      · rw [if_neg j3] at he
        split at he
        · exact absurd (pr he).1 (by decide)
        · exact absurd (pr he).1 (by decide)
    · rw [if_neg i3] at hne he
      by_cases i10 : 10 ≤ i ∧ i < 10 + n
      · rw [if_pos i10] at he
        by_cases j3 : j < 3
        · rw [if_pos j3] at he
          exact absurd (pr he).1 (by decide)
        · rw [if_neg j3] at he
          split at he
          · have := pr he
            omega
          · exact absurd (pr he).1 (by decide)
      · rw [if_neg i10] at hne
        exact absurd rfl hne
theorem sh_ware_at (b n : Nat) (hn : n ≤ 4) (k : Nat) (hk : k < 3) : inI (sh 3 b n) 4 k 0 = if b ≤ k then (k : Int) else -1 := by
  split
  · refine inI_is (sh_len _ _ _) (by omega) (by rw [sh_get _ _ _ (by omega), if_pos hk, if_neg (by omega)]) fun j hj => ?_
    rw [sh_get _ _ _ (by omega), if_pos (by omega)]
    split
    · exact fun z => absurd (pr z).1 (by decide)
    · intro z
      have := pr z
      omega
  · refine inI_no (sh_len _ _ _) fun j hj => ?_
    rw [sh_get _ _ _ hj]
    split
    · split
      · exact fun z => absurd (pr z).1 (by decide)
      · intro z
        have := pr z
        omega
    · split
      · exact fun z => absurd (pr z).1 (by decide)
      · exact fun z => absurd (pr z).1 (by decide)
theorem sh_slot (b n : Nat) (hb : b ≤ 3) (hn : n ≤ 4) (j : Nat) (hj : j < 4) : if j < n + b then 0 ≤ inI (sh 3 b n) 2 0 j else inI (sh 3 b n) 2 0 j = -1 := by
  split
  · by_cases h : j < n
    · have hn' : ¬ inI (sh 3 b n) 2 0 j < 0 := fun z => isAt_not (inI_none.1 z (10 + j) (by rw [sh_len]; omega)) (by
        rw [sh_get _ _ _ (by omega), if_neg (by omega), if_pos (by omega)]
        show ((2 : Int), (0 : Int), ((10 + j : Nat) : Int) - 10) = (2, 0, (j : Int))
        rw [show ((10 + j : Nat) : Int) - 10 = j by omega])
      omega
    · have hn' : ¬ inI (sh 3 b n) 2 0 j < 0 := fun z => isAt_not (inI_none.1 z (j - n) (by rw [sh_len]; omega)) (by
        rw [sh_get _ _ _ (by omega), if_pos (by omega), if_pos (by omega)]
        show ((2 : Int), (0 : Int), (n : Int) + ((j - n : Nat) : Int)) = (2, 0, (j : Int))
        rw [show (n : Int) + ((j - n : Nat) : Int) = j by omega])
      omega
  · refine inI_no (sh_len _ _ _) fun i hi => ?_
    rw [sh_get _ _ _ hi]
    split
    · split
      · intro z
        have := pr z
        omega
      · exact fun z => absurd (pr z).1 (by decide)
    · split
      · intro z
        have := pr z
        omega
      · exact fun z => absurd (pr z).1 (by decide)
theorem sh_wareI (b n : Nat) (hn : n ≤ 4) : wareI (sh 3 b n) = if b < 3 then (b : Int) else -1 := by
  have h0 := sh_ware_at b n hn 0 (by decide)
  have h1 := sh_ware_at b n hn 1 (by decide)
  have h2 := sh_ware_at b n hn 2 (by decide)
  rw [wareI_eq]
  rw [show ((0 : Nat) : Int) = 0 from rfl] at h0
  rw [show ((1 : Nat) : Int) = 1 from rfl] at h1
  rw [show ((2 : Nat) : Int) = 2 from rfl] at h2
  rw [h0, h1, h2]
  match b with
  | 0 => rfl
  | 1 => rfl
  | 2 => rfl
  | b + 3 =>
    have c0 : ¬ b + 3 ≤ 0 := by omega
    have c1 : ¬ b + 3 ≤ 1 := by omega
    have c2 : ¬ b + 3 ≤ 2 := by omega
    have c3 : ¬ b + 3 < 3 := by omega
    simp only [c0, c1, c2, c3, if_false]
    rfl
theorem sh_empty (b n : Nat) (hb : b ≤ 3) (hn : n ≤ 4) : emptyI (sh 3 b n) 0 = if n + b < 4 then ((n + b : Nat) : Int) else -1 := by
  split
  · refine empty_is (b := n + b) (by omega) ?_ fun j hj => ?_
    · have := sh_slot b n hb hn (n + b) (by omega)
      rw [if_neg (by omega)] at this
      rw [this]; decide
    · have := sh_slot b n hb hn j (by omega)
      rw [if_pos hj] at this
      exact this
  · refine empty_no fun j hj => ?_
    have := sh_slot b n hb hn j hj
    rw [if_pos (by omega)] at this
    exact this
theorem GoodsBuys (a0 : Int) (w0 : (Lit.int .i64 a0).wf = true) (a1 : Int) (w1 : (Lit.int .i64 a1).wf = true) (a2 : Int) (w2 : (Lit.int .i64 a2).wf = true) : f4 a0 a1 a2 = some (true, ()) := by
  refine OK.eq ?_
  unfold f4
  rw [known_eq]
  simp only [Option.bind_some, Bool.not_true, cond_false]
  refine OK.callR (world_is a0 0 0 0 [] (by decide) a1) ?_
  rintro z ⟨its0, rfl, hI, hN⟩
  obtain rfl := hN rfl
  have s0 : within 0 4 = 0 := by decide
  rw [s0] at *
  dsimp only
  have hc := cells_ok a0 (1 + within 0 3)
  rw [find_r _ hc.b hc.len, find_shop]
  simp only [Option.bind_some]
  cases hs : shopAt a0 (1 + within 0 3) with
  | none => exact OK.ret rfl
  | some i =>
    dsimp only
    have hi5 := (cells_shop a0 (1 + within 0 3) i).2 hs
    have hi384 := shop_is a0 (1 + within 0 3) hs
    rw [decide_eq_false (show ¬ (i : Int) < 0 by omega), cond_false]
    have hW := world_wi a0 (1 + within 0 3) 0 0 hI (gold_ok 0 a1)
    have w32 : within 0 32 = 0 := by decide
    have hh1 := hero_row a0 (1 + within 0 3) 0 0
    rw [w32] at hh1
    have hE := entsW_get a0 (1 + within 0 3) 0 0 0 (by decide)
    rw [w32, if_pos (show Int.toNat 0 = 0 from rfl)] at hE
    have hat : heroAt a0 (1 + within 0 3) 0 = i := by
      unfold heroAt
      rw [if_pos ⟨rfl, by rw [hs]; rfl⟩, hs]
      rfl
    have hx : ex ((entsW a0 (1 + within 0 3) 0 0).getD 0 eN) = (i : Int) % 24 := by
      rw [hE]
      show heroAt a0 (1 + within 0 3) 0 % 24 = _
      rw [hat]
    have hy : ey ((entsW a0 (1 + within 0 3) 0 0).getD 0 eN) = (i : Int) / 24 := by
      rw [hE]
      show heroAt a0 (1 + within 0 3) 0 / 24 = _
      rw [hat]
    have h5 : atC (cells a0 (1 + within 0 3)) ((i : Int) % 24) ((i : Int) / 24) = 5 := by
      unfold atC
      rw [if_pos (show InG ((i : Int) % 24) ((i : Int) / 24) from ⟨by omega, by omega, by omega, by omega⟩)]
      show (cells a0 (1 + within 0 3)).getD ((i : Int) / 24 * 24 + (i : Int) % 24).toNat 0 = 5
      rw [show ((i : Int) / 24 * 24 + (i : Int) % 24).toNat = i by omega]
      exact hi5
    have bg := within_b a1 1000 (by decide)
    have b2 := within_b a2 5 (by decide)
    have eg : goldOf 0 (within a1 1000) 0 = within a1 1000 ∧ goldOf 0 (within a1 1000) 1 = 0 ∧ goldOf 0 (within a1 1000) 2 = 0 ∧ goldOf 0 (within a1 1000) 3 = 0 := ⟨rfl, rfl, rfl, rfl⟩
    rw [eg.1, eg.2.1, eg.2.2.1, eg.2.2.2] at *
    clear eg hE hat hs hi384 hi5
    generalize cells a0 (1 + within 0 3) = c at *
    generalize entsW a0 (1 + within 0 3) 0 0 = l at *
    generalize (i : Int) % 24 = X at *
    generalize (i : Int) / 24 = Y at *
    generalize 1 + within 0 3 = fl at *
    generalize within a1 1000 = G at *
    rw [within7_eq a2 5 (by decide) (by decide)]
    simp only [Option.bind_some]
    generalize within a2 5 = had at *
    obtain ⟨n, rfl⟩ : ∃ n : Nat, had = n := ⟨had.toNat, by omega⟩
    have hn : n ≤ 4 := by omega
    unfold f4.L4
    refine OK.loop (fun m : Nat => ((n : Int), (m : Int), a0, 0, fl, 0, G, 0, 0, 0, c, l, sh m 0 0, ())) (fun m => m ≤ 3) (fun m => 3 - m) (fun rec m hm ih => ?_) 0 (by rw [sh_none]; rfl) (Nat.zero_le _) (by decide)
    dsimp only
    rw [bif_dec]
    by_cases q : m < 3
    · have go := ih (m + 1) (by omega) (by omega) _ rfl
      rw [if_pos (by omega), sh_len, inR (by omega), cond_true, Int.toNat_natCast, sh_ware m q, wr (by omega)]
      exact go
    obtain rfl : m = 3 := by omega
    rw [if_neg (by decide)]
    clear ih q hm
    unfold f4.L3
    refine OK.loop (fun k : Nat => ((n : Int), (k : Int), a0, 0, fl, 0, G, 0, 0, 0, c, l, sh 3 0 k, ())) (fun k => k ≤ n) (fun k => n - k) (fun rec k hk ih => ?_) 0 rfl (Nat.zero_le _) (by omega)
    dsimp only
    rw [bif_dec]
    by_cases q : k < n
    · have go := ih (k + 1) (by omega) (by omega) _ rfl
      rw [if_pos (by omega), wr (x := 10 + (k : Int)) (by omega), sh_len, inR (by omega), cond_true, show Int.toNat (10 + (k : Int)) = 10 + k by omega, sh_sword k (by omega), wr (by omega)]
      exact go
    obtain rfl : k = n := by omega
    rw [if_neg (by omega)]
    clear ih q hk
    have W0 : WI c l (sh 3 0 k) G 0 0 0 := ⟨hW.hp, sh_ok c k hn, hW.gold, hW.pos⟩
    clear hW hI hN
    unfold f4.L2
    refine OK.loop (fun r : Nat × Nat => ((k : Int), G, 0, (r.1 : Int), a0, 0, fl, 0, G - 5 * (r.2 : Int), 0, 0, 0, c, l, sh 3 r.2 k, ())) (fun r => r.1 ≤ 6 ∧ (r.2 : Int) = min (r.1 : Int) (min (min 3 (4 - (k : Int))) (G / 5)) ∧ WI c l (sh 3 r.2 k) (G - 5 * (r.2 : Int)) 0 0 0) (fun r => 6 - r.1) (fun rec r hr ih => ?_) (0, 0) (by show _ = ((k : Int), G, (0 : Int), (0 : Int), a0, (0 : Int), fl, (0 : Int), G - 5 * 0, (0 : Int), (0 : Int), (0 : Int), c, l, sh 3 0 k, ()); rw [Int.mul_zero, Int.sub_zero]) ⟨by decide, by dsimp only; omega, by dsimp only; rw [show ((0 : Nat) : Int) = 0 from rfl, Int.mul_zero, Int.sub_zero]; exact W0⟩ (by dsimp only; decide)
    clear W0
    obtain ⟨r, b⟩ := r
    obtain ⟨hr, hb, W⟩ := hr
    dsimp only at hr hb W ih ⊢
    have hb3 : b ≤ 3 := by omega
    rw [bif_dec]
    by_cases q : r < 6
    · rw [if_pos (by omega), do_eq a0 0 fl 0 c hc.b hc.len W.hp W.its W.gold]
      simp only [Option.bind_some]
      have W' := do_ok W 0 10
      have eD : doP c l (sh 3 b k) (G - 5 * (b : Int)) 0 0 0 0 10 = if G - 5 * (b : Int) < 5 ∨ 3 ≤ b ∨ 4 ≤ k + b then (G - 5 * (b : Int), 0, 0, 0, l, sh 3 b k) else (G - 5 * ((b + 1 : Nat) : Int), 0, 0, 0, l, sh 3 (b + 1) k) := by
        unfold doP
        rw [hh1, if_neg (by decide), if_neg (by decide), if_neg (by decide), if_neg (by decide), if_neg (by decide), if_pos rfl, show Int.toNat 0 = 0 from rfl, hx, hy]
        unfold buyP intoI
        rw [h5, sh_wareI b k hn, sh_empty b k hb3 hn, show gget (G - 5 * (b : Int)) 0 0 0 0 = G - 5 * (b : Int) from rfl]
        by_cases h : G - 5 * (b : Int) < 5 ∨ 3 ≤ b ∨ 4 ≤ k + b
        · rw [if_pos h]
          rw [if_pos (by
            rcases h with h | h | h
            · exact .inr (.inl h)
            · exact .inr (.inr (.inl (by rw [if_neg (by omega)]; decide)))
            · exact .inr (.inr (.inr (by rw [if_neg (by omega)]; decide))))]
        · have b3 : b < 3 := by omega
          have kb : k + b < 4 := by omega
          rw [if_neg h, if_pos b3, if_pos kb]
          rw [if_neg (show ¬ ((5 : Int) ≠ 5 ∨ G - 5 * (b : Int) < 5 ∨ (b : Int) < 0 ∨ ((k + b : Nat) : Int) < 0) by omega), if_neg (by omega), Int.toNat_natCast, sh_get _ _ _ (by omega), if_pos b3, if_neg (Nat.lt_irrefl b)]
          have e := sh_buy b k b3
          show (gset 0 (G - 5 * (b : Int) - 5) 0 (G - 5 * (b : Int)), gset 0 (G - 5 * (b : Int) - 5) 1 0, gset 0 (G - 5 * (b : Int) - 5) 2 0, gset 0 (G - 5 * (b : Int) - 5) 3 0, l, (sh 3 b k).set b (1, 2, 0, ((k + b : Nat) : Int))) = _
          rw [show ((k + b : Nat) : Int) = (k : Int) + b by omega, e]
          show (G - 5 * (b : Int) - 5, (0 : Int), (0 : Int), (0 : Int), l, sh 3 (b + 1) k) = _
          rw [show G - 5 * (b : Int) - 5 = G - 5 * ((b + 1 : Nat) : Int) by omega]
      rw [eD] at W' ⊢
      rw [wr (x := (r : Int) + 1) (by omega)]
      by_cases h : G - 5 * (b : Int) < 5 ∨ 3 ≤ b ∨ 4 ≤ k + b
      · rw [if_pos h]
        exact ih (r + 1, b) ⟨by dsimp only; omega, by dsimp only; omega, W⟩ (by dsimp only; omega) _ rfl
      · rw [if_neg h] at W' ⊢
        exact ih (r + 1, b + 1) ⟨by dsimp only; omega, by dsimp only; omega, W'⟩ (by dsimp only; omega) _ rfl
    · obtain rfl : r = 6 := by omega
      rw [if_neg (by decide)]
      have hbM : (b : Int) = min (min 3 (4 - (k : Int))) (G / 5) := by omega
      clear ih hr q
      unfold f4.L1
      refine OK.loop (fun j : Nat => ((k : Int), G, ((min j b : Nat) : Int), (j : Int), a0, 0, fl, 0, G - 5 * (b : Int), 0, 0, 0, c, l, sh 3 b k, ())) (fun j => j ≤ 3) (fun j => 3 - j) (fun rec j hj ih => ?_) 0 (by rw [Nat.zero_min]; rfl) (Nat.zero_le _) (by decide)
      dsimp only
      rw [bif_dec]
      by_cases q : j < 3
      · have go := ih (j + 1) (by omega) (by omega) _ rfl
        have gj : (sh 3 b k).getD (Int.toNat (j : Int)) (0, 0, 0, 0) = if j < b then (1, 2, 0, (k : Int) + j) else (1, 4, (j : Int), 0) := by
          have := sh_get 3 b k (i := j) (by omega)
          rw [if_pos q] at this
          exact this
        have r40 : inRange (j : Int) 40 = true := inR (by omega)
        rw [if_pos (by omega)]
        simp only [sh_len, r40, cond_true, gj]
        rw [wr (x := (j : Int) + 1) (by omega)]
        by_cases z : j < b
        · rw [if_pos z]
          dsimp only
          rw [beq_self_eq_true, cond_true, wr (x := (k : Int) + ((min j b : Nat) : Int)) (by omega), show ((min j b : Nat) : Int) = j by omega, bne_self_eq_false, cond_false, wr (by omega)]
          rw [show ((min (j + 1) b : Nat) : Int) = (j : Int) + 1 by omega] at go
          exact go
        · rw [if_neg z]
          dsimp only
          rw [show ((4 : Int) == 2) = false from rfl, cond_false]
          rw [show min (j + 1) b = min j b by omega] at go
          exact go
      · obtain rfl : j = 3 := by omega
        rw [if_neg (by decide), show ((min 3 b : Nat) : Int) = b by omega, wr (x := 4 - (k : Int)) (by omega), Int.tdiv_eq_ediv_of_nonneg (by omega), wr (x := G / 5) (by omega), minI_eq, minI_eq, ← hbM, beq_self_eq_true, cond_true, wr (x := 5 * (b : Int)) (by omega), wr (x := G - 5 * (b : Int)) (by omega), beq_self_eq_true, cond_true, check_ok a0 0 fl 0 c _ _ _ _ hc l W.its]
        exact OK.ret rfl
end Go.Proofs.Ytdbfecfcoephoaa.Pure

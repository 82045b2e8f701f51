/- The law GenStocks, in plain words (own work). -/
import Derived.Test.YtbekimnigknapaaGenLaw
namespace Go.Proofs.Ytbekimnigknapaa.Pure
open Go Go.Proofs.Ytbekimnigknapaa.Mx Go.Proofs.Ytbekimnigknapaa.Pc Go.Proofs.Ytbekimnigknapaa.Run Go.Proofs.Ytbekimnigknapaa.Field Go.Proofs.Ytbekimnigknapaa.Gen Go.Proofs.Ytbekimnigknapaa.GenL Go.Proofs.Ytbekimnigknapaa.Fl
set_option linter.unusedVariables false
set_option linter.unusedSimpArgs false
theorem rat_cell (c : List Int) (hc : CB c) (n : Int) (hn : 0 ≤ n ∧ n < 384) : f21 c (n % 24) (n / 24) = some (c.getD n.toNat 0, ()) := by
  rw [at_eq c hc]
  have h : InG (n % 24) (n / 24) := by unfold InG; omega
  rw [if_pos h]
  have e : cel (n % 24) (n / 24) = n := by unfold cel; omega
  rw [e]
  rfl
theorem nodup_ne {L : List Int} (h : L.Nodup) {i k : Nat} (hi : i < L.length) (hk : k < i) : L.getD k 0 ≠ L.getD i 0 := by
  rw [List.getD_eq_getElem?_getD, List.getD_eq_getElem?_getD, List.getElem?_eq_getElem hi, List.getElem?_eq_getElem (by omega)]
  intro e
  have := (List.getElem_inj (h₀ := by omega) (h₁ := hi) h).1 e
  omega
theorem getD_mem {L : List Int} {i : Nat} (hi : i < L.length) : L.getD i 0 ∈ L := by
  rw [List.getD_eq_getElem?_getD, List.getElem?_eq_getElem hi]
  exact List.getElem_mem _
/-- No monster ahead of one stands where it stands. -/
theorem ents_apart (s fl : Int) (c f : List Int) (L : List Int) (es : List EntT) (h : MI s fl c f L es) (hb : L.length ≤ 1000) (k0 : Int × List Int × List Int × List EntT × List ItT × Unit → Option (Bool × Unit)) (Q : Bool × Unit → Prop) (i : Nat) (hi : i < L.length)
    (d v0 v1 v2 v3 v4 v5 v6 v7 : Int) (l : List ItT) (k : OK (k0 (((i + 1 : Nat) : Int), f, c, es, l, ())) Q) :
    OK (f5.L1 k0 ((i : Int), 0, f, v0, v1, v2, L.getD i 0 % 24, L.getD i 0 / 24, v3, v4, v5, v6, v7, d, c, es, l, ())) Q := by
  unfold f5.L1
  refine OK.loop (fun j : Nat => ((i : Int), (j : Int), f, v0, v1, v2, L.getD i 0 % 24, L.getD i 0 / 24, v3, v4, v5, v6, v7, d, c, es, l, ())) (fun j => j ≤ i) (fun j => i - j) (fun rec j hj ih => ?_) 0 rfl (Nat.zero_le _) (by omega)
  have hel := h.len
  dsimp only
  rw [bif_dec]
  by_cases q : j < i
  · obtain ⟨kk, ek⟩ := h.at' j (by omega)
    have ee := ent_is s fl kk (L.getD j 0)
    have ne := nodup_ne h.one hi q
    have g1 := h.good _ (getD_mem (L := L) (i := j) (by omega))
    have g2 := h.good _ (getD_mem (L := L) (i := i) (by omega))
    have go := ih (j + 1) (by omega) (by omega) _ rfl
    have ed : es.getD j (0, 0, 0, 0, 0, 0, 0, 0, 0, 0, 0) = entAt s fl kk (L.getD j 0) := ek
    rw [if_pos (by omega), inR (by omega), cond_true, cond_true, Int.toNat_natCast, ed, ee.2.2.1, ee.2.2.2.1, wr (x := (j : Int) + 1) (by omega)]
    refine OK.bif (fun h1 => ?_) (fun _ => go)
    refine OK.bif (fun h2 => ?_) (fun _ => go)
    have e1 := beq_iff_eq.1 h1
    have e2 := beq_iff_eq.1 h2
    exact absurd (show L.getD j 0 = L.getD i 0 by omega) ne
  · rw [if_neg (by omega), wr (by omega)]
    exact k
theorem items_apart (c : List Int) (L : List Int) (l : List ItT) (W : List ItT) (h : II c L l) (hb : L.length ≤ 1000) (k0 : Int × Int × List Int × List EntT × List ItT × Unit → Option (Bool × Unit)) (Q : Bool × Unit → Prop) (i : Nat) (hi : i < L.length)
    (kind wh n : Int) (es : List EntT) (k : OK (k0 (n, ((i + 1 : Nat) : Int), c, es, l ++ W, ())) Q) :
    OK (f5.L2 k0 (n, (i : Int), 0, kind, wh, L.getD i 0 % 24, L.getD i 0 / 24, c, es, l ++ W, ())) Q := by
  unfold f5.L2
  refine OK.loop (fun j : Nat => (n, (i : Int), (j : Int), kind, wh, L.getD i 0 % 24, L.getD i 0 / 24, c, es, l ++ W, ())) (fun j => j ≤ i) (fun j => i - j) (fun rec j hj ih => ?_) 0 rfl (Nat.zero_le _) (by omega)
  have hel := h.len
  dsimp only
  rw [bif_dec]
  by_cases q : j < i
  · have ee := h.at' j (by omega)
    have ne := nodup_ne h.one hi q
    have g1 := h.good _ (getD_mem (L := L) (i := j) (by omega))
    have g2 := h.good _ (getD_mem (L := L) (i := i) (by omega))
    have go := ih (j + 1) (by omega) (by omega) _ rfl
    have ed : (l ++ W).getD j (0, 0, 0, 0) = l.getD j i0' := by
      rw [List.getD_eq_getElem?_getD, List.getElem?_append_left (by omega), List.getD_eq_getElem?_getD]
    rw [if_pos (by omega), inR (by rw [List.length_append]; omega), cond_true, cond_true, cond_true, cond_true, Int.toNat_natCast, ed, ee.2.2, wr (x := (j : Int) + 1) (by omega)]
    dsimp only
    refine OK.bif (fun h1 => ?_) (fun _ => ?_)
    · exfalso
      simp only [Bool.and_eq_true, beq_iff_eq] at h1
      exact ne (by omega)
    · rw [beq_self_eq_true, cond_true]
      refine OK.bif (fun h1 => ?_) (fun _ => go)
      refine OK.bif (fun h2 => ?_) (fun _ => go)
      have e1 := beq_iff_eq.1 h1
      have e2 := beq_iff_eq.1 h2
      exact absurd (show L.getD j 0 = L.getD i 0 by omega) ne
  · rw [if_neg (by omega), wr (by omega)]
    exact k
theorem ware_is (s fl k : Int) : 1 ≤ (ware s fl k).1 ∧ (ware s fl k).1 ≤ 4 ∧ (ware s fl k).2.1 = 4 := by
  have d := (d_is s fl (50 + k) 1 3 (by decide) (by decide)).2
  have e : (ware s fl k).1 = 1 + dv s fl (50 + k) 1 3 := rfl
  exact ⟨by omega, by omega, rfl⟩
theorem wares_at (s fl : Int) (j : Nat) (hj : j < (wares s fl).length) : ∃ k, (wares s fl).getD j i0' = ware s fl k := by
  have e : wares s fl = if (shopAt s fl).isSome then [ware s fl 0, ware s fl 1, ware s fl 2] else [] := rfl
  by_cases h : (shopAt s fl).isSome = true
  · rw [if_pos h] at e
    rw [e] at hj ⊢
    have key : j = 0 ∨ j = 1 ∨ j = 2 := by simp at hj; omega
    rcases key with rfl | rfl | rfl
    · exact ⟨0, rfl⟩
    · exact ⟨1, rfl⟩
    · exact ⟨2, rfl⟩
  · rw [if_neg h] at e
    rw [e] at hj
    exact absurd hj (Nat.not_lt_zero j)
theorem GenStocks (a0 : Int) (w0 : (Lit.int .i64 a0).wf = true) (a1 : Int) (w1 : (Lit.int .i64 a1).wf = true) : f5 a0 a1 = some (true, ()) := by
  have b1 := within_b a1 3 (by decide)
  unfold f5
  rw [Fl.known_eq]
  simp only [Option.bind_some, Bool.not_true, cond_false]
  rw [Fl.within_eq _ _ (by decide) (by decide)]
  simp only [Option.bind_some]
  rw [wr (x := 1 + within a1 3) (by omega), make_eq a0 _ (by omega) (by omega)]
  simp only [Option.bind_some, bne_self_eq_false, cond_false]
  generalize hfl : 1 + within a1 3 = fl at *
  have f1 : 1 ≤ fl := by omega
  have f2 : fl ≤ 10000 := by omega
  have hl := cells_len a0 fl
  have e1 : (floor a0 fl).1 = cells a0 fl := rfl
  have e2 : (floor a0 fl).2.1 = mons a0 fl (cells a0 fl) (dist a0 fl) (fl + 2).toNat 0 [] [] := rfl
  have e3 : (floor a0 fl).2.2.1 = its a0 fl (cells a0 fl) (dist a0 fl) 4 0 [] [] ++ wares a0 fl := rfl
  have hcb := cells_cb a0 fl
  obtain ⟨L, hM, hML⟩ := mons_is a0 fl (cells a0 fl) (dist a0 fl)
  obtain ⟨K, hI, hIL⟩ := its_is a0 fl (cells a0 fl) (dist a0 fl)
  rw [e1, e2, e3, find_r _ hcb hl, find_up]
  simp only [Option.bind_some]
  rw [(fld_is (cells a0 fl) hcb (upc a0 fl)).1, fld_cells]
  simp only [Option.bind_some]
  have hdl := (dist_is a0 fl).len
  have hshop := find_r _ hcb hl 5
  rw [find_shop] at hshop
  have hwl := wares_len a0 fl
  have hwa := wares_at a0 fl
  have hel := hM.len
  have hil := hI.len
  generalize mons a0 fl (cells a0 fl) (dist a0 fl) (fl + 2).toNat 0 [] [] = es at *
  generalize its a0 fl (cells a0 fl) (dist a0 fl) 4 0 [] [] = l at *
  generalize wares a0 fl = W at *
  generalize cells a0 fl = c at *
  generalize dist a0 fl = f at *
  have hw3 : W.length ≤ 3 := by rw [hwl]; split <;> omega
  rw [bif_dec, bif_dec, wr (by omega), if_neg (by omega), if_neg (by rw [List.length_append]; omega)]
  have items : f5.L3 (0, 0, c, es, l ++ W, ()) = some (true, ()) := by
    refine OK.eq ?_
    unfold f5.L3
    refine OK.loop (fun i : Nat => (((i - l.length : Nat) : Int), (i : Int), c, es, l ++ W, ())) (fun i => i ≤ l.length + W.length) (fun i => l.length + W.length - i) (fun rec i hi ih => ?_) 0 (by simp) (Nat.zero_le _) (by omega)
    dsimp only
    rw [bif_dec, List.length_append]
    by_cases q : i < l.length + W.length
    · have go := ih (i + 1) (by omega) (by omega) _ rfl
      rw [if_pos (by omega), inR (by omega), cond_true, Int.toNat_natCast, wr (x := (i : Int) + 1) (by omega)]
      by_cases q2 : i < l.length
      · have ed : (l ++ W).getD i (0, 0, 0, 0) = l.getD i i0' := by
          rw [List.getD_eq_getElem?_getD, List.getElem?_append_left q2, List.getD_eq_getElem?_getD]
        have ee := hI.at' i (by omega)
        have g := hI.good _ (getD_mem (L := K) (i := i) (by omega))
        rw [ed, bif_dec, if_neg (by omega), bif_dec, if_neg (by omega), ee.2.2]
        dsimp only
        rw [show ((1 : Int) == 4) = false from rfl, cond_false, show ((1 : Int) != 1) = false from rfl, cond_false, rat_cell c hcb _ ⟨g.1, g.2.1⟩, g.2.2]
        simp only [Option.bind_some, bne_self_eq_false, cond_false]
        refine items_apart c K l W hI (by omega) rec _ i (by omega) _ _ _ es ?_
        rw [show ((i - l.length : Nat) : Int) = ((i + 1 - l.length : Nat) : Int) by omega]
        exact go
      · have ed : (l ++ W).getD i (0, 0, 0, 0) = W.getD (i - l.length) i0' := by
          rw [List.getD_eq_getElem?_getD, List.getElem?_append_right (by omega), List.getD_eq_getElem?_getD]
        obtain ⟨k, ek⟩ := hwa (i - l.length) (by omega)
        have ew := ware_is a0 fl k
        rw [ed, ek, bif_dec, if_neg (by omega), bif_dec, if_neg (by omega), ew.2.2, beq_self_eq_true, cond_true, wr (by omega)]
        rw [show ((i + 1 - l.length : Nat) : Int) = ((i - l.length : Nat) : Int) + 1 by omega] at go
        exact go
    · have : i = l.length + W.length := by omega
      subst this
      rw [if_neg (by omega), hshop]
      simp only [Option.bind_some]
      have en : l.length + W.length - l.length = W.length := by omega
      rw [en, hwl]
      cases shopAt a0 fl with
      | none => exact OK.ret rfl
      | some k =>
        simp only [Option.isSome_some, if_true]
        rw [decide_eq_true (show ((k : Nat) : Int) ≥ 0 by omega)]
        exact OK.ret rfl
  refine OK.eq ?_
  unfold f5.L4
  refine OK.loop (fun i : Nat => ((i : Int), f, c, es, l ++ W, ())) (fun i => i ≤ es.length) (fun i => es.length - i) (fun rec i hi ih => ?_) 0 rfl (Nat.zero_le _) (by omega)
  dsimp only
  rw [bif_dec]
  by_cases q : i < es.length
  · obtain ⟨kk, ek⟩ := hM.at' i (by omega)
    have ee := ent_is a0 fl kk (L.getD i 0)
    have g := hM.good _ (getD_mem (L := L) (i := i) (by omega))
    have ed : es.getD i (0, 0, 0, 0, 0, 0, 0, 0, 0, 0, 0) = entAt a0 fl kk (L.getD i 0) := ek
    have go := ih (i + 1) (by omega) (by omega) _ rfl
    rw [if_pos (by omega), inR (by omega), cond_true, Int.toNat_natCast, ed, ee.2.2.1, ee.2.2.2.1, rat_cell c hcb _ ⟨g.1, g.2.1⟩, g.2.2.1]
    simp only [Option.bind_some, bne_self_eq_false, cond_false]
    have en : IntKind.wrap .i64 (IntKind.wrap .i64 (L.getD i 0 / 24 * 24) + L.getD i 0 % 24) = L.getD i 0 := by rw [wr (x := L.getD i 0 / 24 * 24) (by omega), wr (by omega)]; omega
    rw [en, inR (by omega), cond_true, bif_dec, if_neg (by omega), bif_dec, if_neg (by omega), bif_dec, if_neg (by omega), ee.2.2.2.2.1]
    have ez := ee.2.2.2.2.2
    rw [ee.2.2.2.2.1] at ez
    simp only [bne_self_eq_false, cond_false]
    rw [bif_dec, if_neg (by omega)]
    exact ents_apart a0 fl c f L es hM (by omega) rec _ i (by omega) _ _ _ _ _ _ _ _ _ (l ++ W) go
  · rw [if_neg (by omega), items]
    exact OK.ret rfl
end Go.Proofs.Ytbekimnigknapaa.Pure

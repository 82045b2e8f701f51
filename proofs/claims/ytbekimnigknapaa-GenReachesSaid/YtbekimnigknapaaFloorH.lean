/- The program's floor is the floor in plain words: stairs, monsters, items, the whole (own work). -/
import Derived.Test.YtbekimnigknapaaFloorG
namespace Go.Proofs.Ytbekimnigknapaa.Fl
open Go Go.Proofs.Ytbekimnigknapaa.Mx Go.Proofs.Ytbekimnigknapaa.Pc Go.Proofs.Ytbekimnigknapaa.Run Go.Proofs.Ytbekimnigknapaa.Field Go.Proofs.Ytbekimnigknapaa.Gen Go.Proofs.Ytbekimnigknapaa.GenL
set_option linter.unusedVariables false
set_option linter.unusedSimpArgs false
theorem field_g (c : List Int) (hc : CB c) (u : Int) : f66 c [] [u] = some (fld c u, ()) := by
  obtain ⟨⟨y, z⟩, e, h⟩ := field_is c hc [] [u] (by simp)
  have : y = fld c u := field_one h (fld_is c hc u).2
  rw [e, this]
theorem far_index (s fl : Int) : (List.range (dist s fl).length).find? (fun i : Nat => Field.rd (dist s fl) (far s fl) == (dist s fl).getD i 0) = some (far s fl).toNat := by
  obtain ⟨i, hi, e, h1, h2, h3⟩ := far_is s fl
  have hl := (dist_is s fl).len
  rw [List.find?_range_eq_some, e, Int.toNat_natCast]
  refine ⟨beq_iff_eq.2 rfl, List.mem_range.2 (by omega), fun j hj => ?_⟩
  have := h2 j hj
  have e1 : (dist s fl).getD j 0 = Field.rd (dist s fl) (j : Int) := rfl
  have : (Field.rd (dist s fl) (i : Int) == (dist s fl).getD j 0) = false := by rw [beq_eq_false_iff_ne, e1]; omega
  rw [this]; rfl
theorem stairs_g (s fl : Int) : f44 (mx s fl 0) (my s fl 0) s fl (halls s fl 5) = some (s, fl, cells s fl, dist s fl, ()) := by
  have b := mid_b s fl 0
  obtain ⟨D, hh, _⟩ := halls_hi s fl 5
  have hl := hh.len
  have hu := upc_gc s fl
  unfold GC at hu
  have eu : my s fl 0 * 24 + mx s fl 0 = upc s fl := rfl
  have eU : (halls s fl 5).set (upc s fl).toNat 3 = cellsU s fl := rfl
  have eD : fld (cellsU s fl) (upc s fl) = dist s fl := rfl
  have eD' : (cellsU s fl).set (far s fl).toNat 4 = cellsD s fl := rfl
  obtain ⟨i, hi, ei, h1, h2, h3⟩ := far_is s fl
  have hfl := (dist_is s fl).len
  have hul := cellsU_len s fl
  have hg := far_gc s fl
  unfold GC at hg
  have hlt := far_lt s fl
  have hfd := far_dist s fl
  unfold f44
  rw [cell_g _ _ (by omega) (by omega), eu]
  simp only [Option.bind_some]
  rw [inR (by omega), cond_true, eU, field_g _ (cellsU_cb s fl), eD]
  simp only [Option.bind_some]
  rw [max_g (dist s fl) (far s fl).toNat (by omega) (by omega) (fun j hj => by
    have := h3 j (by omega)
    rw [show (((far s fl).toNat : Nat) : Int) = far s fl by omega, ei]
    exact this)]
  simp only [Option.bind_some]
  rw [show (((far s fl).toNat : Nat) : Int) = far s fl by omega, index_g _ _ (by omega), far_index]
  simp only [Option.bind_some]
  rw [inR (by omega), cond_true, Int.toNat_natCast, eD', die_g]
  dsimp only
  have d := d_is s fl 6 0 2 (by decide) (by decide)
  rw [d.1]
  simp only [Option.bind_some]
  have e0 : shopAt s fl = if dv s fl 6 0 2 = 0 then (List.range 384).find? (shopIs (cellsD s fl) (dist s fl) (far s fl)) else none := rfl
  by_cases z : dv s fl 6 0 2 = 0
  · have q : (dv s fl 6 0 2 != 0) = false := by simp [z]
    have ec : cells s fl = match (List.range 384).find? (shopIs (cellsD s fl) (dist s fl) (far s fl)) with | some i => (cellsD s fl).set i 5 | none => cellsD s fl := by
      unfold cells
      rw [e0, if_pos z]
      rfl
    have hdl := cellsD_len s fl
    rw [q, cond_false, ec]
    unfold f44.L1
    refine (it_find (x := (Field.rd (dist s fl) (far s fl), ((dist s fl).length : Int), 0, s, fl, cellsD s fl, dist s fl, ())) (shopIs (cellsD s fl) (dist s fl) (far s fl)) 384 (fun i : Nat => (Field.rd (dist s fl) (far s fl), ((dist s fl).length : Int), (i : Int), s, fl, cellsD s fl, dist s fl, ())) (fun i => some (s, fl, (cellsD s fl).set i 5, dist s fl, ())) (some (s, fl, cellsD s fl, dist s fl, ())) (fun rec i hi => ?_) (by decide) rfl).trans ?_
    rotate_left
    · cases (List.range 384).find? (shopIs (cellsD s fl) (dist s fl) (far s fl)) <;> rfl
    · dsimp only
      rw [bif_dec]
      by_cases c : i < 384
      · rw [if_pos c, if_pos (by omega), inR (i := (i : Int)) (n := (dist s fl).length) (by omega), inR (i := (i : Int)) (n := (cellsD s fl).length) (by omega), wr (x := (i : Int) + 1) (by omega), Int.tdiv_eq_ediv_of_nonneg (by omega), wr (by omega), Int.toNat_natCast]
        simp only [cond_true]
        unfold shopIs
        cases (dist s fl).getD i 0 == Field.rd (dist s fl) (far s fl) / 2 <;> cases (cellsD s fl).getD i 0 == 1 <;> rfl
      · rw [if_neg c, if_neg (by omega)]
  · have q : (dv s fl 6 0 2 != 0) = true := bne_iff_ne.2 z
    have ec : cells s fl = cellsD s fl := by
      unfold cells
      rw [e0, if_neg z]
    rw [q, cond_true, ec]
theorem free_g (m : (List Int × List EntT × List ItT) × Int × Int × List Int) (far : Int) (taken : List Int) (hc : m.1.1.length = 384) (hf : m.2.2.2.length = 384) (ht : taken.length ≤ 1000) :
    f69 m far taken = some (frees m.1.1 m.2.2.2 far taken, ()) := by
  obtain ⟨⟨c, es, is⟩, s, fl, f⟩ := m
  dsimp only at hc hf ⊢
  refine OK.eq ?_
  unfold f69 f69.L1
  refine OK.loop (fun j : Nat × List Int => (((c, es, is), s, fl, f), far, taken, f, (f.length : Int), (j.1 : Int), j.2, ())) (fun j => j.1 ≤ 384 ∧ j.2 = ((List.range j.1).filter fun i : Nat => c.getD i 0 == 1 && decide (far ≤ f.getD i 0) && !taken.contains (i : Int)).map fun i : Nat => (i : Int)) (fun j => 384 - j.1) (fun rec j hj ih => ?_) (0, []) rfl ⟨Nat.zero_le _, rfl⟩ (by dsimp only; decide)
  obtain ⟨i, l⟩ := j
  obtain ⟨hi, hl⟩ := hj
  dsimp only at hi hl ih ⊢
  rw [bif_dec]
  by_cases c4 : i < 384
  · have wj : IntKind.wrap .i64 ((i : Int) + 1) = ((i + 1 : Nat) : Int) := by rw [wr (by omega)]; omega
    have hll : l.length ≤ 384 := by
      rw [hl, List.length_map]
      have := List.length_filter_le (fun i : Nat => c.getD i 0 == 1 && decide (far ≤ f.getD i 0) && !taken.contains (i : Int)) (List.range i)
      rw [List.length_range] at this
      omega
    rw [if_pos (by omega), inR (n := f.length) (by omega), inR (n := c.length) (by omega), cond_true, cond_true, wj, Int.toNat_natCast, contains_g _ _ (by omega)]
    simp only [Option.bind_some]
    have skip : (c.getD i 0 == 1 && decide (far ≤ f.getD i 0) && !taken.contains (i : Int)) = false → OK (rec (((c, es, is), s, fl, f), far, taken, f, (f.length : Int), ((i + 1 : Nat) : Int), l, ())) _ := fun hp => ih (i + 1, l) ⟨by dsimp only; omega, by
      dsimp only
      rw [List.range_succ, List.filter_append, List.filter_cons, hp]
      simpa using hl⟩ (by dsimp only; omega) _ rfl
    refine OK.bif (fun h1 => ?_) (fun h1 => skip (by rw [h1]; rfl))
    refine OK.bif (fun h2 => ?_) (fun h2 => skip (by
      have : decide (far ≤ f.getD i 0) = false := h2
      rw [this, Bool.and_false]; rfl))
    refine OK.bif (fun h3 => ?_) (fun h3 => skip (by rw [h3, Bool.and_false]))
    rw [decide_eq_true (by simp [limit]; omega), cond_true]
    refine ih (i + 1, l ++ [(i : Int)]) ⟨by dsimp only; omega, ?_⟩ (by dsimp only; omega) _ rfl
    have h2' : decide (far ≤ f.getD i 0) = true := h2
    dsimp only
    rw [List.range_succ, List.filter_append, List.filter_cons, h1, h2', h3, List.map_append, hl]
    rfl
  · have ei : i = 384 := by omega
    subst ei
    rw [if_neg (by omega)]
    exact OK.ret (by rw [hl]; rfl)
theorem stats_g (s fl k at' : Int) (y : Int × Int × Int × Int × Int × Int × Int × Int × Int × Int × Int × Unit) (h : 1 ≤ fl ∧ fl ≤ 10000) (e : f70 (2 + dv s fl (16 + k) 1 (min (fl + 1) 3)) = some y) :
    (y.1, y.2.1, y.2.2.1, at' % 24, at' / 24, y.2.2.2.2.2.1, y.2.2.2.2.2.2.1, y.2.2.2.2.2.2.2.1, y.2.2.2.2.2.2.2.2.1, y.2.2.2.2.2.2.2.2.2.1, y.2.2.2.2.2.2.2.2.2.2.1) = entAt s fl k at' := by
  have d := (d_is s fl (16 + k) 1 (min (fl + 1) 3) (by omega) (by omega)).2
  unfold entAt
  generalize dv s fl (16 + k) 1 (min (fl + 1) 3) = v at *
  have : v = 0 ∨ v = 1 ∨ v = 2 := by omega
  rcases this with rfl | rfl | rfl <;> (cases e; rfl)
theorem stats_gsome (s fl k : Int) (h : 1 ≤ fl ∧ fl ≤ 10000) : ∃ y, f70 (2 + dv s fl (16 + k) 1 (min (fl + 1) 3)) = some y := by
  have d := (d_is s fl (16 + k) 1 (min (fl + 1) 3) (by omega) (by omega)).2
  generalize dv s fl (16 + k) 1 (min (fl + 1) 3) = v at *
  have : v = 0 ∨ v = 1 ∨ v = 2 := by omega
  rcases this with rfl | rfl | rfl <;> exact ⟨_, rfl⟩
theorem mons_g (s fl : Int) (c f : List Int) (hc : c.length = 384) (hf : f.length = 384) (h1 : 1 ≤ fl) (h2 : fl ≤ 900) :
    f45 s fl c f = some (s, fl, c, f, mons s fl c f (fl + 2).toNat 0 [] [], ()) := by
  refine OK.eq ?_
  unfold f45 f45.L1
  rw [wr (x := fl + 2) (by omega)]
  generalize hM : mons s fl c f (fl + 2).toNat 0 [] [] = M
  refine OK.loop (fun j : Nat × List EntT × List Int => (fl + 2, (j.1 : Int), s, fl, c, f, j.2.2, j.2.1, ())) (fun j => (j.1 : Int) ≤ fl + 2 ∧ j.2.2.length ≤ j.1 ∧ j.2.1.length ≤ j.1 ∧ mons s fl c f (fl + 2 - j.1).toNat j.1 j.2.2 j.2.1 = M) (fun j => (fl + 2).toNat - j.1) (fun rec j hj ih => ?_) (0, [], []) rfl ⟨by dsimp only; omega, Nat.zero_le _, Nat.zero_le _, by dsimp only; rw [show fl + 2 - ((0 : Nat) : Int) = fl + 2 by omega]; exact hM⟩ (by dsimp only; omega)
  clear hM
  obtain ⟨i, es, taken⟩ := j
  obtain ⟨hi, hu, he, hM⟩ := hj
  dsimp only at hi hu he hM ih ⊢
  rw [bif_dec]
  by_cases q : (i : Int) < fl + 2
  · obtain ⟨n, en⟩ : ∃ n, (fl + 2 - (i : Int)).toNat = n + 1 := ⟨(fl + 1 - i).toNat, by omega⟩
    rw [en] at hM
    unfold mons at hM
    rw [if_pos q, wr (x := 7 + (i : Int)) (by omega), wr (x := 16 + (i : Int)) (by omega), wr (x := fl + 1) (by omega), free_g _ _ _ hc hf (by omega)]
    simp only [Option.bind_some]
    have hlen := frees_len c f 4 taken
    by_cases h0 : frees c f 4 taken = []
    · rw [if_pos h0] at hM
      rw [h0]
      subst hM
      exact OK.ret rfl
    · have hm := frees_mem (pk_mem s fl c f 4 (7 + i) taken h0)
      have hl1 : 1 ≤ (frees c f 4 taken).length := by
        cases e : frees c f 4 taken with
        | nil => exact absurd e h0
        | cons _ _ => simp
      rw [if_neg h0] at hM
      have d0 := d_is s fl (7 + (i : Int)) 0 (frees c f 4 taken).length (by omega) (by omega)
      have d := d_is s fl (16 + (i : Int)) 1 (min (fl + 1) 3) (by omega) (by omega)
      have qz : (((frees c f 4 taken).length : Int) == 0) = false := by rw [beq_eq_false_iff_ne]; omega
      rw [qz, cond_false, die_g, die_g, minI_eq]
      dsimp only
      rw [d0.1]
      simp only [Option.bind_some]
      rw [inR d0.2, cond_true, decide_eq_true (by simp [limit]; omega), cond_true, d.1]
      simp only [Option.bind_some]
      rw [wr (x := 2 + dv s fl (16 + (i : Int)) 1 (min (fl + 1) 3)) (by omega)]
      obtain ⟨y, ey⟩ := stats_gsome s fl i ⟨h1, by omega⟩
      rw [ey]
      simp only [Option.bind_some]
      have ep : (frees c f 4 taken).getD (dv s fl (7 + (i : Int)) 0 (frees c f 4 taken).length).toNat 0 = pk s fl c f 4 (7 + i) taken := rfl
      rw [ep] at hM ⊢
      rw [decide_eq_true (by simp [limit]; omega), cond_true, wr (x := (i : Int) + 1) (by omega), Int.tmod_eq_emod_of_nonneg hm.1, Int.tdiv_eq_ediv_of_nonneg hm.1, wr (by omega)]
      have es' := stats_g s fl i (pk s fl c f 4 (7 + i) taken) y ⟨h1, by omega⟩ ey
      rw [es']
      refine ih (i + 1, es ++ [entAt s fl i (pk s fl c f 4 (7 + i) taken)], taken ++ [pk s fl c f 4 (7 + i) taken]) ⟨by dsimp only; omega, by dsimp only; simp; omega, by dsimp only; simp; omega, ?_⟩ (by dsimp only; omega) _ rfl
      dsimp only
      have : (fl + 2 - ((i + 1 : Nat) : Int)).toNat = n := by omega
      rw [this]
      exact hM
  · have : (fl + 2 - (i : Int)).toNat = 0 := by omega
    rw [this] at hM
    rw [if_neg q]
    unfold mons at hM
    subst hM
    exact OK.ret rfl
/-- The first cell of a kind; -1: none. -/
def findC (c : List Int) (v : Int) : Int := match (List.range 384).find? fun i : Nat => c.getD i 0 == v with | some i => (i : Int) | none => -1
theorem idx_is (l : List Int) (hl : ∀ i, 0 ≤ l.getD i 0 ∧ l.getD i 0 < 256) (v : Int) (hv : 0 ≤ v ∧ v < 256) : idxN l v = match (List.range l.length).find? fun i : Nat => l.getD i 0 == v with | some i => (i : Int) | none => -1 := by
  have hs : (ByteArray.mk (Go.Lib.bytesOf l).toArray).size = l.length := by
    show (Go.Lib.bytesOf l).toArray.size = _
    simp [Go.Lib.bytesOf]
  have hp : ∀ i, i < l.length → ((ByteArray.mk (Go.Lib.bytesOf l).toArray)[i]! == v.toNat.toUInt8) = (l.getD i 0 == v) := by
    intro i hi
    have e : (ByteArray.mk (Go.Lib.bytesOf l).toArray)[i]! = UInt8.ofNat (l.getD i 0).toNat := by
      rw [getElem!_pos _ i (by rw [hs]; exact hi)]
      show (Go.Lib.bytesOf l).toArray[i]'_ = _
      simp [Go.Lib.bytesOf, List.getD_eq_getElem?_getD, List.getElem?_eq_getElem hi]
    have b := hl i
    rw [e]
    by_cases q : l.getD i 0 = v
    · rw [q, beq_self_eq_true, beq_self_eq_true]
    · rw [beq_eq_false_iff_ne.2 q, beq_eq_false_iff_ne]
      intro z
      have z2 := congrArg UInt8.toNat z
      have a1 : (UInt8.ofNat (l.getD i 0).toNat).toNat = (l.getD i 0).toNat := UInt8.toNat_ofNat_of_lt' (by show _ < 256; omega)
      have a2 : (v.toNat.toUInt8).toNat = v.toNat := UInt8.toNat_ofNat_of_lt' (by show _ < 256; omega)
      rw [a1, a2] at z2
      omega
  have main : ∀ (L : List Nat), (∀ i ∈ L, i < l.length) → L.find? (fun i => (ByteArray.mk (Go.Lib.bytesOf l).toArray)[i]! == v.toNat.toUInt8) = L.find? fun i : Nat => l.getD i 0 == v := by
    intro L
    induction L with
    | nil => intro _; rfl
    | cons a L ih =>
      intro h
      rw [List.find?_cons, List.find?_cons, hp a (h a List.mem_cons_self), ih fun i hi => h i (List.mem_cons_of_mem _ hi)]
  unfold idxN
  rw [hs, main _ fun i hi => List.mem_range.1 hi]
  rfl
theorem find_g (c : List Int) (hc : CB c) (hl : c.length = 384) (v : Int) (hv : 0 ≤ v ∧ v ≤ 255) : f71 c v = some (findC c v, ()) := by
  unfold f71
  have e : Int.toNat (minI (c.length : Int) 384) = 384 := by rw [minI_eq]; omega
  have e2 : IntKind.wrap .u8 v = v := by
    have : IntKind.wrap .u8 v = v % 256 := by simp [IntKind.wrap, IntKind.bits, IntKind.signed]
    omega
  rw [bif_dec, if_neg (by omega), bif_dec, if_neg (by omega), decide_eq_true (by rw [minI_eq]; omega), cond_true, e, e2, List.drop_zero, List.take_of_length_le (by omega)]
  have eF : f80 c v = some (idxN c v, ()) := rfl
  rw [eF]
  simp only [Option.bind_some]
  rw [idx_is c hc v (by omega), hl]
  rfl
theorem find_r (c : List Int) (hc : CB c) (hl : c.length = 384) (v : Int) : f19 c v = some (findC c v, ()) := by
  unfold f19 f19.L1 findC
  refine (it_find (x := (c, v, 0, ())) (fun i : Nat => c.getD i 0 == v) 384 (fun i : Nat => (c, v, (i : Int), ())) (fun i => some ((i : Int), ())) (some (-1, ())) (fun rec i hi => ?_) (by decide) rfl).trans ?_
  rotate_left
  · cases (List.range 384).find? fun i : Nat => c.getD i 0 == v <;> rfl
  · dsimp only
    rw [bif_dec, bif_dec]
    by_cases q : i < 384
    · have b := hc i
      rw [if_pos q, if_pos (by omega), if_pos (by omega), inR (by omega), cond_true, wr (x := (i : Int) + 1) (by omega), Int.toNat_natCast, wr (by omega), ite_bif]
      rfl
    · rw [if_neg q, if_neg (by omega)]
/-- Every cell of the floor is reached. -/
theorem reach (s fl : Int) (h1 : 1 ≤ fl) (h2 : fl ≤ 10000) : (∀ n, GC n → Wk (cells s fl) n → Link (cells s fl) (upc s fl) n) ∧ ∀ n, GC n → Wk (cellsU s fl) n → 0 ≤ Field.rd (dist s fl) n := by
  obtain ⟨z, e, u, hu, hG⟩ := make_wk s fl (by omega) h2
  rw [rmake_eq s fl h1 h2] at e
  cases e
  have all : ∀ n, GC n → Wk (cells s fl) n → Link (cells s fl) (upc s fl) n := fun n hn hw =>
    (hG.all _ (upc_gc s fl) ((cells_wk s fl _).2 (up_wk s fl))).symm.trans (hG.all n hn hw)
  refine ⟨all, fun n hn hw => ?_⟩
  exact link_field (dist_is s fl) ((all n hn ((cells_wk s fl n).2 hw)).mono fun m _ h => (cells_wk s fl m).1 h)
theorem frees_low (s fl : Int) (h1 : 1 ≤ fl) (h2 : fl ≤ 10000) (taken : List Int) : frees (cells s fl) (dist s fl) (-1) taken = frees (cells s fl) (dist s fl) 0 taken := by
  unfold frees
  congr 1
  refine List.filter_congr fun i hi => ?_
  have hi' := List.mem_range.1 hi
  cases e : (cells s fl).getD i 0 == 1 with
  | false => rfl
  | true =>
    have ev := beq_iff_eq.1 e
    have hw : Wk (cells s fl) i := by
      rw [wk_iff (cells_val s fl _)]
      rw [Int.toNat_natCast, ev]; decide
    have := (reach s fl h1 h2).2 i ⟨by omega, by omega⟩ ((cells_wk s fl i).1 hw)
    have : 0 ≤ (dist s fl).getD i 0 := this
    rw [decide_eq_true (show -1 ≤ (dist s fl).getD i 0 by omega), decide_eq_true this]
theorem find_shop (s fl : Int) : findC (cells s fl) 5 = match shopAt s fl with | some i => (i : Int) | none => -1 := by
  unfold findC
  cases h : shopAt s fl with
  | some i =>
    have : (List.range 384).find? (fun j : Nat => (cells s fl).getD j 0 == 5) = some i := List.find?_range_eq_some.2 ⟨beq_iff_eq.2 ((cells_shop s fl i).2 h), List.mem_range.2 (shop_is s fl h).1, fun j hj => by
      have : ((cells s fl).getD j 0 == 5) = false := by
        rw [beq_eq_false_iff_ne]
        intro e
        have := (cells_shop s fl j).1 e
        rw [h] at this
        cases this
        omega
      rw [this]; rfl⟩
    rw [this]
  | none =>
    have : (List.range 384).find? (fun j : Nat => (cells s fl).getD j 0 == 5) = none := List.find?_range_eq_none.2 fun j hj => by
      have : ((cells s fl).getD j 0 == 5) = false := by
        rw [beq_eq_false_iff_ne]
        intro e
        have := (cells_shop s fl j).1 e
        rw [h] at this
        cases this
      rw [this]; rfl
    rw [this]
theorem wares_g (s fl : Int) (c f : List Int) (es : List EntT) (l : List ItT) (hl : l.length ≤ 100) :
    f46.L1 (0, s, fl, c, es, f, l, ()) = some (s, fl, c, es, f, l ++ [ware s fl 0, ware s fl 1, ware s fl 2], ()) := by
  refine OK.eq ?_
  unfold f46.L1
  refine OK.loop (fun j : Nat × List ItT => ((j.1 : Int), s, fl, c, es, f, j.2, ())) (fun j => j.1 ≤ 3 ∧ j.2 = l ++ [ware s fl 0, ware s fl 1, ware s fl 2].take j.1) (fun j => 3 - j.1) (fun rec j hj ih => ?_) (0, l) rfl ⟨Nat.zero_le _, by simp⟩ (by dsimp only; decide)
  obtain ⟨i, l'⟩ := j
  obtain ⟨hi, he⟩ := hj
  dsimp only at hi he ih ⊢
  rw [bif_dec]
  by_cases q : (i : Int) < 3
  · have d := d_is s fl (50 + (i : Int)) 1 3 (by decide) (by decide)
    have hl' : l'.length ≤ 103 := by subst he; simp; omega
    rw [if_pos q, wr (x := 50 + (i : Int)) (by omega), die_g]
    dsimp only
    rw [d.1]
    simp only [Option.bind_some]
    rw [decide_eq_true (by simp [limit]; omega), cond_true, wr (x := (i : Int) + 1) (by omega), wr (x := 1 + dv s fl (50 + (i : Int)) 1 3) (by omega)]
    refine ih (i + 1, l' ++ [ware s fl i]) ⟨by dsimp only; omega, ?_⟩ (by dsimp only; omega) _ rfl
    dsimp only
    rw [he, List.append_assoc]
    have : i = 0 ∨ i = 1 ∨ i = 2 := by omega
    rcases this with rfl | rfl | rfl <;> rfl
  · have : i = 3 := by omega
    subst this
    rw [if_neg q]
    subst he
    exact OK.ret rfl
theorem items_g (s fl : Int) (es : List EntT) (h1 : 1 ≤ fl) (h2 : fl ≤ 900) :
    f46 s fl (cells s fl) es (dist s fl) = some (s, fl, cells s fl, es, dist s fl, its s fl (cells s fl) (dist s fl) 4 0 [] [] ++ wares s fl, ()) := by
  have hc := cells_len s fl
  have hf := (dist_is s fl).len
  have low := frees_low s fl h1 (by omega)
  have hfind := find_g (cells s fl) (cells_cb s fl) hc 5 (by decide)
  have hshop := find_shop s fl
  have ew : wares s fl = if (shopAt s fl).isSome then [ware s fl 0, ware s fl 1, ware s fl 2] else [] := rfl
  generalize cells s fl = c at *
  generalize dist s fl = f at *
  refine OK.eq ?_
  unfold f46 f46.L2
  generalize hM : its s fl c f 4 0 [] [] = M
  refine OK.loop (fun j : Nat × List ItT × List Int => ((j.1 : Int), s, fl, c, es, f, j.2.2, j.2.1, ())) (fun j => j.1 ≤ 4 ∧ j.2.2.length ≤ j.1 ∧ j.2.1.length ≤ j.1 ∧ its s fl c f (4 - j.1) j.1 j.2.2 j.2.1 = M) (fun j => 4 - j.1) (fun rec j hj ih => ?_) (0, [], []) rfl ⟨by dsimp only; decide, Nat.zero_le _, Nat.zero_le _, hM⟩ (by dsimp only; decide)
  clear hM
  obtain ⟨i, l, taken⟩ := j
  obtain ⟨hi, hu, he, hM⟩ := hj
  dsimp only at hi hu he hM ih ⊢
  rw [bif_dec]
  by_cases q : (i : Int) < 4
  · obtain ⟨n, en⟩ : ∃ n, 4 - i = n + 1 := ⟨3 - i, by omega⟩
    rw [en] at hM
    unfold its at hM
    rw [if_pos q, wr (x := (i : Int) + 1) (by omega), wr (x := 40 + (i : Int)) (by omega), free_g _ _ _ hc hf (by omega)]
    dsimp only
    rw [low]
    simp only [Option.bind_some]
    have hlen := frees_len c f 0 taken
    by_cases h0 : frees c f 0 taken = []
    · rw [if_pos h0] at hM
      rw [h0]
      refine ih (i + 1, l, taken) ⟨by dsimp only; omega, by dsimp only; omega, by dsimp only; omega, ?_⟩ (by dsimp only; omega) _ rfl
      dsimp only
      have : 4 - (i + 1) = n := by omega
      rw [this]
      exact hM
    · have hm := frees_mem (pk_mem s fl c f 0 (40 + i) taken h0)
      have hl1 : 1 ≤ (frees c f 0 taken).length := by
        cases e : frees c f 0 taken with
        | nil => exact absurd e h0
        | cons _ _ => simp
      rw [if_neg h0] at hM
      have d0 := d_is s fl (40 + (i : Int)) 0 (frees c f 0 taken).length (by omega) (by omega)
      have d := d_is s fl (40 + (i : Int)) 1 4 (by decide) (by decide)
      have qz : (((frees c f 0 taken).length : Int) == 0) = false := by rw [beq_eq_false_iff_ne]; omega
      rw [qz, cond_false, die_g, die_g]
      dsimp only
      rw [d0.1]
      simp only [Option.bind_some]
      rw [inR d0.2, cond_true, decide_eq_true (by simp [limit]; omega), cond_true, d.1]
      simp only [Option.bind_some]
      have ep : (frees c f 0 taken).getD (dv s fl (40 + (i : Int)) 0 (frees c f 0 taken).length).toNat 0 = pk s fl c f 0 (40 + i) taken := rfl
      rw [ep] at hM ⊢
      rw [decide_eq_true (by simp [limit]; omega), cond_true, wr (x := 1 + dv s fl (40 + (i : Int)) 1 4) (by omega), Int.tmod_eq_emod_of_nonneg hm.1, Int.tdiv_eq_ediv_of_nonneg hm.1, wr (x := pk s fl c f 0 (40 + i) taken / 24) (by omega)]
      refine ih (i + 1, l ++ [(1 + dv s fl (40 + (i : Int)) 1 4, 1, pk s fl c f 0 (40 + i) taken % 24, pk s fl c f 0 (40 + i) taken / 24)], taken ++ [pk s fl c f 0 (40 + i) taken]) ⟨by dsimp only; omega, by dsimp only; simp; omega, by dsimp only; simp; omega, ?_⟩ (by dsimp only; omega) _ rfl
      dsimp only
      have : 4 - (i + 1) = n := by omega
      rw [this]
      exact hM
  · have : 4 - i = 0 := by omega
    rw [this] at hM
    rw [if_neg q]
    unfold its at hM
    subst hM
    rw [hfind]
    simp only [Option.bind_some]
    rw [hshop, ew, bif_dec]
    cases h : shopAt s fl with
    | none =>
      rw [if_pos (by decide)]
      exact OK.ret (by simp)
    | some k =>
      rw [if_neg (by simp only; omega), wares_g s fl c f es l (by omega)]
      exact OK.ret rfl
/-- The program's floor. -/
theorem make_eq (s fl : Int) (h1 : 1 ≤ fl) (h2 : fl ≤ 3) : f14 s fl = some (0, (floor s fl).1, (floor s fl).2.1, (floor s fl).2.2.1, ()) := by
  unfold f14
  rw [bif_dec, bif_dec, if_neg (by omega), if_neg (by omega)]
  have hallsL : ∀ t : Tail, (∀ j : Nat, j < 6 → [t.1, t.2.2.1, t.2.2.2.2.1, t.2.2.2.2.2.2.1, t.2.2.2.2.2.2.2.2.1, t.2.2.2.2.2.2.2.2.2.2.1].getD j 0 = mx s fl j ∧ [t.2.1, t.2.2.2.1, t.2.2.2.2.2.1, t.2.2.2.2.2.2.2.1, t.2.2.2.2.2.2.2.2.2.1, t.2.2.2.2.2.2.2.2.2.2.2.1].getD j 0 = my s fl j) →
      f14.L1 (1, s, fl, t.1, t.2.1, t.2.2.1, t.2.2.2.1, t.2.2.2.2.1, t.2.2.2.2.2.1, t.2.2.2.2.2.2.1, t.2.2.2.2.2.2.2.1, t.2.2.2.2.2.2.2.2.1, t.2.2.2.2.2.2.2.2.2.1, t.2.2.2.2.2.2.2.2.2.2.1, t.2.2.2.2.2.2.2.2.2.2.2.1, rooms s fl, ()) = some (0, (floor s fl).1, (floor s fl).2.1, (floor s fl).2.2.1, ()) := by
    intro t ht
    refine OK.eq ?_
    unfold f14.L1
    refine OK.loop (fun j : Nat => ((j : Int) + 1, s, fl, t.1, t.2.1, t.2.2.1, t.2.2.2.1, t.2.2.2.2.1, t.2.2.2.2.2.1, t.2.2.2.2.2.2.1, t.2.2.2.2.2.2.2.1, t.2.2.2.2.2.2.2.2.1, t.2.2.2.2.2.2.2.2.2.1, t.2.2.2.2.2.2.2.2.2.2.1, t.2.2.2.2.2.2.2.2.2.2.2.1, halls s fl j, ())) (fun j => j ≤ 5) (fun j => 5 - j) (fun rec i hi ih => ?_) 0 rfl (Nat.zero_le _) (by decide)
    dsimp only at hi ih ⊢
    obtain ⟨D, hh, _⟩ := halls_hi s fl i
    have hl := hh.len
    rw [bif_dec]
    by_cases q : (i : Int) + 1 < 6
    · have e : Int.toNat (IntKind.wrap .i64 ((i : Int) + 1 - 1)) = i := by rw [wr (by omega)]; omega
      have ir : inRange (IntKind.wrap .i64 ((i : Int) + 1 - 1)) 6 = true := inR (by rw [wr (by omega)]; omega)
      have e' : Int.toNat ((i : Int) + 1) = i + 1 := by omega
      have b0 := mid_b s fl i
      have b1 := mid_b s fl ((i : Int) + 1)
      have e0 := ht i (by omega)
      have e1 := ht (i + 1) (by omega)
      rw [show ((i + 1 : Nat) : Int) = (i : Int) + 1 by omega] at e1
      have d := d_is s fl ((i : Int) + 1) 4 2 (by decide) (by decide)
      rw [if_pos q, ir, inR (i := (i : Int) + 1) (n := 6) (by omega), cond_true, cond_true, e, e', die_g, e0.1, e0.2, e1.1, e1.2]
      dsimp only
      rw [d.1]
      simp only [Option.bind_some]
      rw [dig_g _ _ _ _ _ s fl _ hl (by unfold GX; omega) (by unfold GY; omega) (by unfold GX; omega) (by unfold GY; omega)]
      simp only [Option.bind_some]
      refine ih (i + 1) (by omega) (by omega) _ ?_
      have eh : halls s fl (i + 1) = hallTo s fl ((i : Int) + 1) (halls s fl i) := by unfold halls; rw [List.range_succ, List.foldl_append]; rfl
      rw [eh]
      unfold hallTo
      have em : (i : Int) + 1 - 1 = i := by omega
      rw [em, wr (by omega)]
      rfl
    · have : i = 5 := by omega
      subst this
      have e0 := ht 0 (by decide)
      have ex : t.1 = mx s fl 0 := e0.1
      have ey : t.2.1 = my s fl 0 := e0.2
      rw [if_neg q, ex, ey, stairs_g]
      simp only [Option.bind_some]
      rw [mons_g s fl _ _ (cells_len s fl) (dist_is s fl).len h1 (by omega)]
      simp only [Option.bind_some]
      rw [items_g s fl _ h1 (by omega)]
      exact OK.ret rfl
  refine OK.eq ?_
  unfold f14.L2
  refine OK.loop (fun j : Nat × Tail => ((j.1 : Int), s, fl, j.2.1, j.2.2.1, j.2.2.2.1, j.2.2.2.2.1, j.2.2.2.2.2.1, j.2.2.2.2.2.2.1, j.2.2.2.2.2.2.2.1, j.2.2.2.2.2.2.2.2.1, j.2.2.2.2.2.2.2.2.2.1, j.2.2.2.2.2.2.2.2.2.2.1, j.2.2.2.2.2.2.2.2.2.2.2.1, j.2.2.2.2.2.2.2.2.2.2.2.2.1, (List.range j.1).foldl (fun c (i : Nat) => roomOf s fl i c) (List.replicate 384 0), ())) (fun j => j.1 ≤ 6 ∧ ∀ k : Nat, k < j.1 → [j.2.1, j.2.2.2.1, j.2.2.2.2.2.1, j.2.2.2.2.2.2.2.1, j.2.2.2.2.2.2.2.2.2.1, j.2.2.2.2.2.2.2.2.2.2.2.1].getD k 0 = mx s fl k ∧ [j.2.2.1, j.2.2.2.2.1, j.2.2.2.2.2.2.1, j.2.2.2.2.2.2.2.2.1, j.2.2.2.2.2.2.2.2.2.2.1, j.2.2.2.2.2.2.2.2.2.2.2.2.1].getD k 0 = my s fl k) (fun j => 6 - j.1) (fun rec j hj ih => ?_) (0, (0, 0, 0, 0, 0, 0, 0, 0, 0, 0, 0, 0, ())) rfl ⟨by dsimp only; decide, fun k hk => absurd hk (Nat.not_lt_zero k)⟩ (by dsimp only; decide)
  obtain ⟨i, t⟩ := j
  obtain ⟨hi, ht⟩ := hj
  dsimp only at hi ht ih ⊢
  rw [bif_dec]
  by_cases q : (i : Int) < 6
  · rw [if_pos q, room_g s fl i _ (rooms_hi' s fl i).len]
    simp only [Option.bind_some]
    rw [inR (by omega), cond_true, wr (by omega), Int.toNat_natCast]
    have key : ∀ p : Nat, ∀ a b : Int, (if i = p then a else b) = if p = i then a else b := fun p a b => by
      by_cases e : i = p
      · rw [if_pos e, if_pos e.symm]
      · rw [if_neg e, if_neg (fun x => e x.symm)]
    refine ih (i + 1, (if i = 0 then mx s fl i else t.1, if i = 0 then my s fl i else t.2.1, if i = 1 then mx s fl i else t.2.2.1, if i = 1 then my s fl i else t.2.2.2.1, if i = 2 then mx s fl i else t.2.2.2.2.1, if i = 2 then my s fl i else t.2.2.2.2.2.1, if i = 3 then mx s fl i else t.2.2.2.2.2.2.1, if i = 3 then my s fl i else t.2.2.2.2.2.2.2.1, if i = 4 then mx s fl i else t.2.2.2.2.2.2.2.2.1, if i = 4 then my s fl i else t.2.2.2.2.2.2.2.2.2.1, if i = 5 then mx s fl i else t.2.2.2.2.2.2.2.2.2.2.1, if i = 5 then my s fl i else t.2.2.2.2.2.2.2.2.2.2.2.1, ())) ⟨by dsimp only; omega, fun k hk => ?_⟩ (by dsimp only; omega) _ ?_
    · dsimp only at hk ⊢
      by_cases e : k = i
      · subst e
        match k, q with
        | 0, _ => exact ⟨rfl, rfl⟩
        | 1, _ => exact ⟨rfl, rfl⟩
        | 2, _ => exact ⟨rfl, rfl⟩
        | 3, _ => exact ⟨rfl, rfl⟩
        | 4, _ => exact ⟨rfl, rfl⟩
        | 5, _ => exact ⟨rfl, rfl⟩
      · have := ht k (by omega)
        match k, (show k < 6 by omega) with
        | 0, _ => simp only [List.getD_cons_zero] at this ⊢; rw [if_neg (by omega), if_neg (by omega)]; exact this
        | 1, _ => simp only [List.getD_cons_zero, List.getD_cons_succ] at this ⊢; rw [if_neg (by omega), if_neg (by omega)]; exact this
        | 2, _ => simp only [List.getD_cons_zero, List.getD_cons_succ] at this ⊢; rw [if_neg (by omega), if_neg (by omega)]; exact this
        | 3, _ => simp only [List.getD_cons_zero, List.getD_cons_succ] at this ⊢; rw [if_neg (by omega), if_neg (by omega)]; exact this
        | 4, _ => simp only [List.getD_cons_zero, List.getD_cons_succ] at this ⊢; rw [if_neg (by omega), if_neg (by omega)]; exact this
        | 5, _ => simp only [List.getD_cons_zero, List.getD_cons_succ] at this ⊢; rw [if_neg (by omega), if_neg (by omega)]; exact this
    · dsimp only
      rw [List.range_succ, List.foldl_append]
      rfl
  · have : i = 6 := by omega
    subst this
    rw [if_neg q]
    have := hallsL t fun j hj => ht j hj
    show OK (f14.L1 (1, s, fl, t.1, t.2.1, t.2.2.1, t.2.2.2.1, t.2.2.2.2.1, t.2.2.2.2.2.1, t.2.2.2.2.2.2.1, t.2.2.2.2.2.2.2.1, t.2.2.2.2.2.2.2.2.1, t.2.2.2.2.2.2.2.2.2.1, t.2.2.2.2.2.2.2.2.2.2.1, t.2.2.2.2.2.2.2.2.2.2.2.1, rooms s fl, ())) _
    rw [this]
    exact OK.ret rfl
theorem make_out (s fl : Int) (h : ¬ (1 ≤ fl ∧ fl ≤ 3)) : f14 s fl = some (1, [], [], [], ()) := by
  unfold f14
  rw [bif_dec, bif_dec]
  by_cases q : fl < 1
  · rw [if_pos q]
  · rw [if_neg q, if_pos (by omega)]
end Go.Proofs.Ytbekimnigknapaa.Fl

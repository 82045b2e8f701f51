/- The law MindsSight, in plain words (own work). -/
import Derived.Test.YtjmbmpeflhkngaaZ12
import Derived.Test.YtjmbmpeflhkngaaPureMindsGoal
import Derived.Test.YtjmbmpeflhkngaaPureMindsMay
namespace Go.Proofs.Ytjmbmpeflhkngaa.Pure
open Go Go.Proofs.Ytjmbmpeflhkngaa.Mx Go.Proofs.Ytjmbmpeflhkngaa.Pc Go.Proofs.Ytjmbmpeflhkngaa.Run Go.Proofs.Ytjmbmpeflhkngaa.Field Go.Proofs.Ytjmbmpeflhkngaa.Gen Go.Proofs.Ytjmbmpeflhkngaa.GenL Go.Proofs.Ytjmbmpeflhkngaa.Fl Go.Proofs.Ytjmbmpeflhkngaa.Wd Go.Proofs.Ytjmbmpeflhkngaa.Ft Go.Proofs.Ytjmbmpeflhkngaa.Ln Go.Proofs.Ytjmbmpeflhkngaa.Nav Go.Proofs.Ytjmbmpeflhkngaa.Mn
set_option linter.unusedVariables false
set_option linter.unusedSimpArgs false
set_option maxHeartbeats 2000000
/-- The cells that can be walked on, where nobody stands. -/
def opE (c : List Int) (l : List EntT) (n : Nat) : List Int := ((List.range n).filter fun i : Nat => walkable (c.getD i 0) && decide (atE l ((i : Int) % 24) ((i : Int) / 24) < 0)).map fun i : Nat => (i : Int)
theorem opE_succ (c : List Int) (l : List EntT) (n : Nat) : opE c l (n + 1) = opE c l n ++ if (walkable (c.getD n 0) && decide (atE l ((n : Int) % 24) ((n : Int) / 24) < 0)) = true then [(n : Int)] else [] := by
  unfold opE
  rw [List.range_succ, List.filter_append, List.map_append, List.filter_cons, List.filter_nil]
  congr 1
  split <;> rfl
theorem opE_len (c : List Int) (l : List EntT) (n : Nat) : (opE c l n).length ≤ n := by
  unfold opE
  rw [List.length_map]
  exact Nat.le_trans (List.length_filter_le _ _) (by simp)
theorem opE_mem {c : List Int} {l : List EntT} {n : Nat} {k : Int} (h : k ∈ opE c l n) : 0 ≤ k ∧ k < n ∧ walkable (c.getD k.toNat 0) = true ∧ atE l (k % 24) (k / 24) < 0 := by
  obtain ⟨i, hi, rfl⟩ := List.mem_map.1 h
  obtain ⟨h1, h2⟩ := List.mem_filter.1 hi
  rw [Bool.and_eq_true, decide_eq_true_eq] at h2
  have := List.mem_range.1 h1
  exact ⟨by omega, by omega, by rw [Int.toNat_natCast]; exact h2.1, h2.2⟩
theorem mem_opE {c : List Int} {l : List EntT} {n : Nat} {k : Int} (h0 : 0 ≤ k) (h1 : k < n) (hw : walkable (c.getD k.toNat 0) = true) (ha : atE l (k % 24) (k / 24) < 0) : k ∈ opE c l n := by
  refine List.mem_map.2 ⟨k.toNat, List.mem_filter.2 ⟨List.mem_range.2 (by omega), ?_⟩, by omega⟩
  rw [hw, show ((k.toNat : Nat) : Int) = k by omega, decide_eq_true ha]
  rfl
/-- A monster that sees a hero goes nearer to it. -/
theorem sight {c : List Int} (hc : CB c) (hv : ∀ i, 0 ≤ c.getD i 0 ∧ c.getD i 0 ≤ 5) {l : List EntT} (hC : COk c l) {h r : Nat} (hh : h < 32) (hr : r < 32) (hk : kd (l.getD h eN) = 1) (hs0 : st (l.getD h eN) = 0) (kr : 2 ≤ kd (l.getD r eN)) (only : ∀ i, kd (l.getD i eN) ≠ 0 → i = r ∨ i = h)
    {k m : Int} (gk : GC k) (gm : GC m) (xk : ex (l.getD r eN) = k % 24 ∧ ey (l.getD r eN) = k / 24) (xm : ex (l.getD h eN) = m % 24 ∧ ey (l.getD h eN) = m / 24) (hne : k ≠ m)
    {f : List Int} (hf : IsField (opnC c []) (IsT c [m]) f) (hl : 0 ≤ Field.rd f k) (hw : Wk c k) (hwm : Wk c m) (sd fr : Int)
    (hsee : dst (m % 24 - k % 24) (m / 24 - k / 24) ≤ 1536 ∧ sees c (k % 24) (k / 24) (m % 24) (m / 24) = true) : ∃ j : Nat, j < 4 ∧ monI c l sd fr r = 1 + (j : Int) ∧ GC (nbr k j) ∧ Field.rd f (nbr k j) = Field.rd f k - 1 := by
  have A := cok_apart hC
  have h32 := A.ents.len
  have zm : Field.rd f m = 0 := (hf.zero m gm).2 ⟨by simp, hwm⟩
  have pk : 1 ≤ Field.rd f k := by
    have : Field.rd f k ≠ 0 := fun z => hne (List.mem_singleton.1 ((hf.zero k gk).1 z).1)
    omega
  have eh : heroE' l 0 = h := by
    have := heroE_at A hh hk
    rw [hs0] at this
    exact this
  have inh := in_grid A.ents hh (by rw [hk]; decide)
  have inr := in_grid A.ents hr (show kd (l.getD r eN) ≠ 0 by omega)
  have se := seen_zero c (l.getD r eN) eh (fun q hq => hero_none h32 fun i hi k1 s1 => by
    rcases only i (by rw [k1]; decide) with rfl | rfl
    · omega
    · rw [hs0] at s1
      omega)
  rw [xk.1, xk.2, xm.1, xm.2, if_pos hsee] at se
  unfold monI
  rw [Int.toNat_natCast, if_neg (by omega), ]
  unfold monT
  rw [se, if_pos (by omega), Int.toNat_natCast]
  rcases (bes_all inr inh).2.2 with ⟨j, hj, ej, d1, d2⟩ | ⟨e0, none⟩
  · rw [ej, if_pos (by omega)]
    have ek : nbr k j = m := by
      rw [xk.1, xm.1] at d1
      rw [xk.2, xm.2] at d2
      rcases dir_place k gk j hj with ⟨h1, h2⟩ | ⟨h1, _⟩
      · rw [← h2]
        unfold cel
        omega
      · exfalso
        apply h1
        unfold GC at gm
        unfold InG
        omega
    have s := hf.down m k gm gk (by omega) (adj_sym k m gk gm ⟨j, hj, ek⟩) ⟨hw, fun z => by have := z.1; unfold GC at gk; simp at this; omega⟩
    refine ⟨j, hj, rfl, by rw [ek]; exact gm, ?_⟩
    rw [ek]
    omega
  · rw [e0, if_neg (fun z => z rfl)]
    have ec : cel (ex (l.getD r eN)) (ey (l.getD r eN)) = k := by unfold cel; rw [xk.1, xk.2]; omega
    have em : ey (l.getD h eN) * 24 + ex (l.getD h eN) = m := by rw [xm.1, xm.2]; omega
    rw [ec, em]
    refine tow_step hc A.ents gk gm hf pk fun i hi hki => ?_
    rcases only i hki with rfl | rfl
    · exact .inl ec
    · refine .inr ⟨em, fun j hj z => ?_⟩
      obtain ⟨_, _, n3, n4⟩ := nbr_xy gk hj (by rw [z]; exact gm)
      rw [z] at n3 n4
      refine none j hj ⟨?_, ?_⟩
      · rw [xm.1, xk.1]; omega
      · rw [xm.2, xk.2]; omega
theorem MindsSight (a0 : Int) (w0 : (Lit.int .i64 a0).wf = true) (a1 : Int) (w1 : (Lit.int .i64 a1).wf = true) (a2 : Int) (w2 : (Lit.int .i64 a2).wf = true) (a3 : Int) (w3 : (Lit.int .i64 a3).wf = true) (a4 : Int) (w4 : (Lit.int .i64 a4).wf = true) : f5 a0 a1 a2 a3 a4 = some (true, ()) := by
  refine OK.eq ?_
  unfold f5
  have b2 := within_b a2 1000 (by decide)
  have b4 := within_b a4 1000 (by decide)
  rw [known9, within9_eq a2 _ (by decide) (by decide)]
  simp only [Option.bind_some, Bool.not_true, cond_false]
  rw [wr (x := 3 * within a2 1000) (by omega), wr (by omega)]
  generalize 1 + 3 * within a2 1000 = at' at *
  refine OK.callR (world_is a0 a1 0 at' [] (by simp) 0) ?_
  rintro z ⟨its, rfl, hI, _⟩
  dsimp only
  have ws : within 0 4 = 0 := by decide
  rw [ws, within9_eq a4 _ (by decide) (by decide)]
  simp only [Option.bind_some]
  have bf := within_b a1 3 (by decide)
  have f1 : 1 ≤ 1 + within a1 3 := by omega
  have f2 : 1 + within a1 3 ≤ 10000 := by omega
  generalize 1 + within a1 3 = fl at *
  generalize within a4 1000 = fr at *
  have hcl := cells_len a0 fl
  have hcb := cells_cb a0 fl
  have hv := cells_val a0 fl
  obtain ⟨hm, hwm⟩ := heroAt_gc a0 fl at'
  have b32 := within_b at' 32 (by decide)
  have hh : (within at' 32).toNat < 32 := by omega
  have hC := COk.one a0 fl at' 0 rfl
  have A := cok_apart hC
  have hl := A.ents.len
  have g0 := entsW_get a0 fl 0 at'
  have gh : (entsW a0 fl 0 at').getD (within at' 32).toNat eN = heroE a0 fl 0 at' := by rw [g0, if_pos rfl]
  have only0 := entsW_one a0 fl 0 at'
  have fr0 := entsW_free a0 fl 0 at'
  have room := room_first a0 fl at'
  generalize hHr : (within at' 32).toNat = h at *
  have eh : heroE' (entsW a0 fl 0 at') 0 = h := by
    have := heroE_at A hh (by rw [gh]; rfl)
    rw [gh] at this
    exact this
  rw [rhero_eq _ (by omega), eh]
  simp only [Option.bind_some]
  have R := (reach a0 fl f1 f2).1
  have xE := heroE_pos a0 fl 0 at'
  generalize heroE a0 fl 0 at' = E at *
  generalize heroAt a0 fl at' = m at *
  generalize entsW a0 fl 0 at' = l at *
  generalize goldOf 0 (within 0 1000) 0 = q0 at *
  generalize goldOf 0 (within 0 1000) 1 = q1 at *
  generalize goldOf 0 (within 0 1000) 2 = q2 at *
  generalize goldOf 0 (within 0 1000) 3 = q3 at *
  have link : ∀ {n k : Int}, GC n → Wk (cells a0 fl) n → GC k → Wk (cells a0 fl) k → Link (cells a0 fl) n k := fun a b d e => (R _ a b).symm.trans (R _ d e)
  clear R
  generalize cells a0 fl = c at *
  unfold f5.L1
  refine OK.loop (fun i : Nat => (a3, (h : Int), (i : Int), a0, fr, fl, 0, q0, q1, q2, q3, opE c l i, c, l, its, ())) (fun i => i ≤ 384) (fun i => 384 - i) (fun rec i hi ih => ?_) 0 rfl (Nat.zero_le _) (by decide)
  dsimp only at hi ih ⊢
  rw [bif_dec]
  by_cases q : i < 384
  · have nx := ih (i + 1) (by omega) (by omega) _ rfl
    rw [opE_succ] at nx
    have b := hcb i
    have ol := opE_len c l i
    rw [if_pos (by omega), inR (by omega), cond_true, Int.toNat_natCast, wr (x := c.getD i 0) (by omega), rwalk_eq, wr (x := (i : Int) + 1) (by omega), Int.tmod_eq_emod_of_nonneg (by omega), Int.tdiv_eq_ediv_of_nonneg (by omega), wr (x := (i : Int) / 24) (by omega), rat_eq l (by omega)]
    simp only [Option.bind_some]
    cases hw : walkable (c.getD i 0) with
    | false =>
      rw [hw, Bool.false_and, if_neg (by decide), List.append_nil] at nx
      exact nx
    | true =>
      rw [hw, Bool.true_and] at nx
      rw [cond_true, bif_dec]
      by_cases z : atE l ((i : Int) % 24) ((i : Int) / 24) < 0
      · rw [decide_eq_true z, if_pos rfl] at nx
        rw [if_pos z, decide_eq_true (by simp [limit]; omega), cond_true]
        exact nx
      · rw [decide_eq_false z, if_neg (by decide), List.append_nil] at nx
        rw [if_neg z]
        exact nx
  · have : i = 384 := by omega
    subst this
    clear ih
    have ol := opE_len c l 384
    have o1 : 1 ≤ (opE c l 384).length := by
      obtain ⟨j, j0, j1, jw, ja⟩ := room
      have := List.length_pos_of_mem (mem_opE (n := 384) j0 (by omega) jw ja)
      omega
    have bo := within_b a3 (opE c l 384).length (by omega)
    rw [if_neg (by omega), within9_eq a3 _ (by omega) (by omega)]
    simp only [Option.bind_some]
    have hmem : (opE c l 384).getD (within a3 (opE c l 384).length).toNat 0 ∈ opE c l 384 := by
      rw [List.getD_eq_getElem?_getD, List.getElem?_eq_getElem (by omega)]
      exact List.getElem_mem _
    rw [inR (by omega), cond_true]
    generalize (opE c l 384).getD (within a3 (opE c l 384).length).toNat 0 = k at *
    obtain ⟨k0, k1, kw, ka⟩ := opE_mem hmem
    have gk : GC k := ⟨k0, by omega⟩
    have wk : Wk c k := kw
    have hm' := hm
    unfold GC at hm'
    have stt : f25 3 = some (3, 0, 0, 0, 0, 9, 9, 4, 1, 0, 0, ()) := rfl
    rw [stt, Int.tmod_eq_emod_of_nonneg k0, Int.tdiv_eq_ediv_of_nonneg k0, wr (x := k / 24) (by omega)]
    simp only [Option.bind_some]
    obtain ⟨r, hr, ef, kf⟩ := first_free (l := l) fr0
    have hsp := rspawn_eq hl (3, 0, 0, k % 24, k / 24, 9, 9, 4, 1, 0, 0) (by show 1 ≤ (3 : Int) ∧ (3 : Int) ≤ 4; decide)
    rw [ef] at hsp
    dsimp only at hsp
    rw [hsp]
    simp only [Option.bind_some]
    generalize hE2 : withGen (3, 0, 0, k % 24, k / 24, 9, 9, 4, 1, 0, 0) (Int.tmod (IntKind.wrap .i64 (gn (l.getD r eN) + 1)) 256) = E2
    have x2 : ex E2 = k % 24 := by rw [← hE2]; rfl
    have y2 : ey E2 = k / 24 := by rw [← hE2]; rfl
    have kd2 : kd E2 = 3 := by rw [← hE2]; rfl
    have st2 : st E2 = 0 := by rw [← hE2]; rfl
    have ok2 : EOk E2 := by
      rw [← hE2]
      refine .inr ?_
      show 1 ≤ (3 : Int) ∧ (3 : Int) ≤ 4 ∧ 1 ≤ (9 : Int) ∧ (9 : Int) ≤ 9 ∧ (9 : Int) ≤ 20 ∧ 0 ≤ (4 : Int) ∧ (4 : Int) ≤ 5 ∧ 0 ≤ (1 : Int) ∧ (1 : Int) ≤ 1 ∧ 0 ≤ (0 : Int) ∧ (0 : Int) ≤ 9 ∧ 0 ≤ (0 : Int) ∧ (0 : Int) ≤ 9
      decide
    have nob := (atE_none hl).1 ka
    have ck : c.getD k.toNat 0 ≠ 0 := walk_ne kw
    have C2 : COk c (l.set r E2) := hC.add hr kf ok2 ⟨by omega, by omega, by omega, by omega, by rw [x2, y2, show k / 24 * 24 + k % 24 = k by omega]; exact ck, by omega, by omega⟩ (fun i hi => by
      unfold standsAt
      by_cases ki : kd (l.getD i eN) = 0
      · rw [ki]; rfl
      · have := nob i hi ki
        rw [x2, y2, Bool.and_eq_false_iff]
        refine .inr ?_
        rw [Bool.and_eq_false_iff, beq_eq_false_iff_ne, beq_eq_false_iff_ne]
        by_cases a : ex (l.getD i eN) = k % 24
        · exact .inr fun b => this ⟨a, b⟩
        · exact .inl a) (fun z => by omega)
    have A2 := cok_apart C2
    have l2 := A2.ents.len
    have kE := xE.2.2.1
    have rh : r ≠ h := fun z => by rw [z, gh] at kf; omega
    have g2 : ∀ i, (l.set r E2).getD i eN = if r = i then E2 else l.getD i eN := fun i => getD_set' _ _ _ _ _ (by omega)
    have gr : (l.set r E2).getD r eN = E2 := by rw [g2, if_pos rfl]
    have gH : (l.set r E2).getD h eN = E := by rw [g2, if_neg rh]; exact gh
    have only : ∀ i, kd ((l.set r E2).getD i eN) ≠ 0 → i = r ∨ i = h := fun i hi => by
      rw [g2] at hi
      by_cases a : r = i
      · exact .inl a.symm
      · rw [if_neg a] at hi
        exact .inr (only0 i hi)
    generalize l.set r E2 = L2 at *
    have lX : (L2.getD h (0, 0, 0, 0, 0, 0, 0, 0, 0, 0, 0)).2.2.2.1 = m % 24 := (congrArg ex gH).trans xE.1
    have lY : (L2.getD h (0, 0, 0, 0, 0, 0, 0, 0, 0, 0, 0)).2.2.2.2.1 = m / 24 := (congrArg ey gH).trans xE.2.1
    have km : k ≠ m := fun z => by
      have := nob h hh (by rw [gh]; omega)
      rw [gh, xE.1, xE.2.1, z] at this
      exact this ⟨rfl, rfl⟩
    rw [inR (by omega), cond_true, cond_true, Int.toNat_natCast, lX, lY, wr (x := m / 24 * 24) (by omega), wr (x := m / 24 * 24 + m % 24) (by omega), show m / 24 * 24 + m % 24 = m by omega]
    refine OK.callR (rfield_is c hcb [] [m] (by simp)) fun y hf => ?_
    obtain ⟨f, u⟩ := y
    dsimp only at hf ⊢
    have hfl := hf.len
    have fs := field_small hf k gk
    rw [monster_eq a0 fr fl 0 q0 q1 q2 q3 hcb A2.ents its (r : Int)]
    simp only [Option.bind_some]
    have mm := mon_may hcb hv C2 a0 fr hr
    have si := sight hcb hv C2 hh hr (by rw [gH]; exact kE) (by rw [gH]; exact xE.2.2.2) (by rw [gr]; omega) only gk hm ⟨by rw [gr]; exact x2, by rw [gr]; exact y2⟩ ⟨by rw [gH]; exact xE.1, by rw [gH]; exact xE.2.1⟩ km hf (link_field hf (link hm hwm gk wk)) wk hwm a0 fr
    have hway : ∃ dx dy, f16 (monI c L2 a0 fr r) = some (dx, dy, ()) ∧ ∀ j : Nat, j < 4 → monI c L2 a0 fr r = 1 + (j : Int) → dx = ddx j ∧ dy = ddy j := by
      rcases mm with e | ⟨_, j, hj, e, _⟩
      · exact ⟨0, 0, by rw [e]; rfl, fun j _ z => by omega⟩
      · refine ⟨ddx j, ddy j, by rw [e]; exact rway_eq j hj, fun i _ z => ?_⟩
        have : i = j := by omega
        rw [this]
        exact ⟨rfl, rfl⟩
    obtain ⟨dx, dy, ew, hd⟩ := hway
    have d04 : 0 ≤ monI c L2 a0 fr r ∧ monI c L2 a0 fr r ≤ 4 := by
      rcases mm with e | ⟨_, j, hj, e, _⟩ <;> omega
    generalize monI c L2 a0 fr r = D at *
    rw [ew]
    simp only [Option.bind_some]
    have ig : InG (k % 24) (k / 24) := by unfold InG; omega
    have im : InG (m % 24) (m / 24) := by unfold InG; omega
    rw [wr (x := m % 24 - k % 24) (by omega), wr (x := m / 24 - k / 24) (by omega), (dst_all _ _ (by omega) (by omega)).2.1, rsees_eq c hcb _ _ _ _ ig im]
    simp only [Option.bind_some]
    refine OK.callR (R := fun z => z = Sum.inl (k, D, dx, dy, decide (dst (m % 24 - k % 24) (m / 24 - k / 24) ≤ 1536) && sees c (k % 24) (k / 24) (m % 24) (m / 24), a0, fr, fl, 0, q0, q1, q2, q3, 3, 0, 0, k % 24, k / 24, 9, 9, 4, 1, 0, 0, f, c, L2, its, ())) ?_ ?_
    · refine OK.bif (fun z => ?_) (fun z => ?_)
      · rw [z, Bool.true_and]
        exact OK.ret rfl
      · rw [z, Bool.false_and]
        exact OK.ret rfl
    · rintro z rfl
      simp only [Sum.elim_inl]
      refine OK.bif (fun z => ?_) (fun z => ?_)
      · rw [Bool.and_eq_true, decide_eq_true_eq] at z
        obtain ⟨j, hj, ej, g, hn⟩ := si z
        obtain ⟨e1, e2⟩ := hd j hj ej
        have dj := dd j hj
        obtain ⟨n1, n2, n3, n4⟩ := nbr_xy gk hj g
        unfold cel at n2
        have g' := g
        unfold GC at g'
        rw [bne_iff_ne.2 (show D ≠ 0 by omega), cond_true, e1, e2, wr (x := k / 24 + ddy j) (by omega), wr (x := (k / 24 + ddy j) * 24) (by omega), wr (x := (k / 24 + ddy j) * 24 + k % 24) (by omega), wr (x := (k / 24 + ddy j) * 24 + k % 24 + ddx j) (by omega), show (k / 24 + ddy j) * 24 + k % 24 + ddx j = nbr k j by omega, inR (by omega), inR (by omega), cond_true, cond_true]
        have v1 : f.getD (nbr k j).toNat 0 = Field.rd f k - 1 := hn
        have v2 : f.getD k.toNat 0 = Field.rd f k := rfl
        have lo := hf.lo k gk
        rw [v1, v2, wr (by omega), beq_self_eq_true]
        exact OK.ret rfl
      · rw [bif_dec, if_pos (by omega), decide_eq_true (by omega)]
        exact OK.ret rfl
end Go.Proofs.Ytjmbmpeflhkngaa.Pure

/- The law NavLeads, in plain words (own work). -/
import Derived.Test.YtldgilfchpfblaaMakeM
import Derived.Test.YtldgilfchpfblaaPureNavFree
namespace Go.Proofs.Ytldgilfchpfblaa.Nav
open Go Go.Proofs.Ytldgilfchpfblaa.Mx Go.Proofs.Ytldgilfchpfblaa.Pc Go.Proofs.Ytldgilfchpfblaa.Run Go.Proofs.Ytldgilfchpfblaa.Field Go.Proofs.Ytldgilfchpfblaa.Gen Go.Proofs.Ytldgilfchpfblaa.GenL
set_option linter.unusedVariables false
set_option linter.unusedSimpArgs false
theorem opn_none (c : List Int) : opnC c (List.replicate 384 false) = opnC c [] := by
  funext n
  apply propext
  have e : ∀ n : Int, (List.replicate 384 false).getD n.toNat false = false := fun n => by
    rw [List.getD_eq_getElem?_getD, List.getElem?_replicate]
    split <;> rfl
  unfold opnC
  rw [e]
  exact ⟨fun h => ⟨h.1, fun x => absurd x.2 (by simp)⟩, fun h => ⟨h.1, fun x => absurd x.2 (by decide)⟩⟩
theorem toward_nil (c : List Int) (hc : CB c) (m g : Int) (hm : GC m) (f : List Int) (hf : IsField (opnC c []) (IsT c [g]) f) :
    OK (f15 c [] (m % 24) (m / 24) [g]) fun z => (Field.rd f m < 1 ∧ z.1 = 0) ∨ (1 ≤ Field.rd f m ∧ ∃ j : Nat, j < 4 ∧ z.1 = 1 + (j : Int) ∧ GC (nbr m j) ∧ Field.rd f (nbr m j) = Field.rd f m - 1) := by
  have hm' := hm
  unfold GC at hm'
  unfold f15
  have em : m / 24 * 24 + m % 24 = m := by omega
  rw [number_eq, if_pos (by omega), em]
  simp only [Option.bind_some]
  have lm : minI (([] : List EntT).length : Int) 32 = 0 := by rw [minI_eq]; decide
  have ld : List.drop 0 (List.take (Int.toNat (0 : Int)) ([] : List EntT)) = [] := rfl
  rw [bif_dec, if_neg (by omega), lm, bif_dec, if_pos (by decide), ld]
  unfold f15.L2
  refine OK.loop (fun _ : Unit => (c, m % 24, m / 24, [g], m, ([] : List EntT), ((([] : List EntT).length : Nat) : Int), 0, List.replicate 384 false, ())) (fun _ => True) (fun _ => 0) (fun rec _ _ _ => ?_) () rfl trivial (by decide)
  dsimp only
  have q0 : ¬ ((0 : Int) < ((([] : List EntT).length : Nat) : Int)) := by decide
  rw [bif_dec, if_neg q0]
  refine OK.callR (field_is c hc (List.replicate 384 false) [g] (by simp)) fun y hy => ?_
  rw [opn_none] at hy
  have ef : y.1 = f := field_one hy hf
  have hfl := hf.len
  have lo := hf.lo m hm
  have sm := field_small hf m hm
  rw [ef, inR (by omega), cond_true, bif_dec]
  by_cases k : f.getD m.toNat 0 < 1
  · rw [if_pos k]
    exact OK.ret (.inl ⟨k, rfl⟩)
  · rw [if_neg k]
    have k' : 1 ≤ Field.rd f m := by unfold Field.rd; omega
    have gb : ∀ n : Int, (List.replicate 384 false).getD n.toNat false = false := fun n => by
      rw [List.getD_eq_getElem?_getD, List.getElem?_replicate]
      split <;> rfl
    obtain ⟨_, p, hp, hadj, hpv⟩ := hf.up m hm (by omega)
    obtain ⟨d0, hd0, ed0⟩ := adj_sym p m hp hm hadj
    have hlen : (List.replicate 384 false).length = 384 := List.length_replicate
    generalize List.replicate 384 false = b at gb hlen ⊢
    unfold f15.L1
    refine OK.loop (fun j : Nat => (m % 24, m / 24, m, 1 + (j : Int), b, f, ())) (fun j => j ≤ d0) (fun j => 4 - j) (fun rec j hj ih => ?_) 0 rfl (Nat.zero_le _) (by decide)
    dsimp only at hj ih ⊢
    have q : j < 4 := by omega
    have d := dd j q
    have wj : IntKind.wrap .i64 (1 + (j : Int) + 1) = 1 + ((j + 1 : Nat) : Int) := by rw [wr (by omega)]; omega
    have skip : ¬ (GC (nbr m j) ∧ Field.rd f (nbr m j) = Field.rd f m - 1) → OK (rec (m % 24, m / 24, m, 1 + ((j + 1 : Nat) : Int), b, f, ())) _ := fun hn => ih (j + 1) (by
      by_cases e : j = d0
      · subst e
        rw [ed0] at hn
        exact absurd ⟨hp, hpv⟩ hn
      · omega) (by omega) _ rfl
    rw [bif_dec, if_pos (by omega), small_of (x := m % 24) (by omega), small_of (x := m / 24) (by omega), cond_true, cond_true, step_eq _ _ (by omega) (by omega) j q, wj]
    simp only [Option.bind_some]
    rw [plain_eq _ _ (by omega) (by omega)]
    simp only [Option.bind_some]
    rw [number_eq]
    simp only [Option.bind_some]
    rcases dir_place m hm j q with ⟨hin, hcel⟩ | ⟨hout, hn⟩
    · unfold InG at hin
      unfold cel at hcel
      have hg : GC (nbr m j) := by rw [← hcel]; unfold GC; omega
      rw [if_pos hin, hcel]
      have hg' := hg
      unfold GC at hg'
      have ew : IntKind.wrap .i64 (f.getD m.toNat 0 - 1) = Field.rd f m - 1 := by
        have : f.getD m.toNat 0 = Field.rd f m := rfl
        rw [this, wr (by omega)]
      rw [bif_dec, if_pos (by omega), inR (i := nbr m j) (n := f.length) (by omega), inR (i := m) (n := f.length) (by omega), inR (i := nbr m j) (n := b.length) (by omega), cond_true, cond_true, cond_true, ew, gb]
      refine OK.bif (fun h1 => ?_) (fun h1 => skip (fun hp => beq_eq_false_iff_ne.1 h1 hp.2))
      exact OK.ret (.inr ⟨k', j, q, rfl, hg, beq_iff_eq.1 h1⟩)
    · unfold InG at hout
      rw [if_neg hout, bif_dec, if_neg (by omega)]
      exact skip (fun hp => by have := hp.1; rw [hn] at this; unfold GC at this; omega)
theorem leads (c : List Int) (hc : CB c) (hcl : c.length = 384) (goal a0 : Int) (h0 : GC a0) (f : List Int) (hf : IsField (opnC c []) (IsT c [goal]) f) (hp : 0 ≤ Field.rd f a0) :
    OK (f3.L1 (a0, goal, Field.rd f a0, 0, c, ())) fun z => z = (true, ()) := by
  have small0 := field_small hf a0 h0
  unfold f3.L1
  refine OK.loop (fun j : Nat × Int => (j.2, goal, Field.rd f a0, (j.1 : Int), c, ())) (fun j => GC j.2 ∧ (j.1 : Int) ≤ Field.rd f a0 ∧ Field.rd f j.2 = Field.rd f a0 - j.1) (fun j => 1001 - j.1) (fun rec j hj ih => ?_) (0, a0) rfl ⟨h0, hp, by dsimp only; omega⟩ (by dsimp only; decide)
  obtain ⟨k, m⟩ := j
  obtain ⟨hm, hk, hv⟩ := hj
  dsimp only at hm hk hv ih ⊢
  have hm' := hm
  unfold GC at hm'
  rw [Int.tmod_eq_emod_of_nonneg (by omega), Int.tdiv_eq_ediv_of_nonneg (by omega), wr (x := m / 24) (by omega), bif_dec]
  by_cases q : (k : Int) < Field.rd f a0
  · rw [if_pos q]
    refine OK.callR (toward_nil c hc m goal hm f hf) fun z hz => ?_
    rcases hz with ⟨h1, _⟩ | ⟨h1, j, hj, ez, hg, hn⟩
    · omega
    · have d := dd j hj
      have n0 : (z.1 == 0) = false := by rw [ez]; simp; omega
      rw [n0, ez, rway_eq j hj]
      simp only [Option.bind_some, cond_false]
      have hg' := hg
      unfold GC at hg'
      have e : IntKind.wrap .i64 (IntKind.wrap .i64 (m + IntKind.wrap .i64 (ddy j * 24)) + ddx j) = nbr m j := by
        rw [wr (x := ddy j * 24) (by omega), wr (x := m + ddy j * 24) (by omega), wr (by omega)]
        rcases dir_place m hm j hj with ⟨hin, hcel⟩ | ⟨_, hn⟩
        · unfold cel at hcel
          omega
        · omega
      have hwalk : walkable (Field.rd c (nbr m j)) = true := by
        by_cases z0 : Field.rd f (nbr m j) = 0
        · exact ((hf.zero _ hg).1 z0).2
        · exact ((hf.up _ hg (by omega)).1).1
      have hv2 := hc (nbr m j).toNat
      have ew : IntKind.wrap .i64 (c.getD (nbr m j).toNat 0) = Field.rd c (nbr m j) := wr (by omega)
      rw [e, inR (by omega), cond_true, ew, rwalk_eq, hwalk, wr (x := (k : Int) + 1) (by omega)]
      simp only [Option.bind_some, Bool.not_true, cond_false]
      exact ih (k + 1, nbr m j) ⟨hg, by dsimp only; omega, by dsimp only; omega⟩ (by dsimp only; omega) _ rfl
  · rw [if_neg q]
    have z0 : Field.rd f m = 0 := by omega
    have eg : m = goal := List.mem_singleton.1 ((hf.zero m hm).1 z0).1
    have qe : (m == goal) = true := by simpa using eg
    rw [qe, cond_true]
    refine OK.callR (toward_nil c hc m goal hm f hf) fun z hz => ?_
    rcases hz with ⟨_, ez⟩ | ⟨h1, _⟩
    · rw [ez]; exact OK.ret rfl
    · omega
theorem NavLeads (a0 : Int) (w0 : (Lit.int .i64 a0).wf = true) (a1 : Int) (w1 : (Lit.int .i64 a1).wf = true) (a2 : Int) (w2 : (Lit.int .i64 a2).wf = true) (a3 : Int) (w3 : (Lit.int .i64 a3).wf = true) : f3 a0 a1 a2 a3 = some (true, ()) := by
  refine OK.eq ?_
  unfold f3
  have b1 := within_b a1 3 (by decide)
  rw [known_eq, within_eq a1 _ (by decide) (by decide)]
  simp only [Option.bind_some, Bool.not_true, cond_false]
  rw [wr (by omega)]
  refine OK.callR (make_wk a0 _ (by omega) (by omega)) fun y2 ⟨u, hu, hG⟩ => ?_
  obtain ⟨c, es⟩ := y2
  dsimp only at hG ⊢
  have hcb := hG.toF.cb
  have hcl := hG.len
  unfold f3.L2
  refine OK.loop (fun j : Nat × List Int => (a2, a3, (j.1 : Int), c, j.2, ())) (fun j => j.1 ≤ 384 ∧ j.2.length ≤ j.1 ∧ (∀ n ∈ j.2, GC n ∧ Wk c n) ∧ (∀ n, GC n → n < (j.1 : Int) → Wk c n → n ∈ j.2)) (fun j => 384 - j.1) (fun rec j hj ih => ?_) (0, []) rfl ⟨Nat.zero_le _, Nat.zero_le _, fun n hn => (by cases hn), fun n hn h => (by unfold GC at hn; dsimp only at h; omega)⟩ (by dsimp only; decide)
  obtain ⟨i, l⟩ := j
  obtain ⟨hi, hll, hG1, hG2⟩ := hj
  dsimp only at hi hll hG1 hG2 ih ⊢
  rw [bif_dec]
  by_cases q : (i : Int) < 384
  · have hv2 := hcb i
    have ew : IntKind.wrap .i64 (c.getD i 0) = Field.rd c (i : Int) := wr (by omega)
    have wi : IntKind.wrap .i64 ((i : Int) + 1) = ((i + 1 : Nat) : Int) := by rw [wr (by omega)]; omega
    rw [if_pos q, inR (by omega), cond_true, Int.toNat_natCast, ew, rwalk_eq, wi]
    simp only [Option.bind_some]
    cases hw : walkable (Field.rd c (i : Int)) with
    | true =>
      rw [cond_true, decide_eq_true (by simp [limit]; omega), cond_true]
      refine ih (i + 1, l ++ [(i : Int)]) ⟨by dsimp only; omega, by dsimp only; simp; omega, fun n hn => ?_, fun n hn h1 h2 => ?_⟩ (by dsimp only; omega) _ rfl
      · rcases List.mem_append.1 hn with x | x
        · exact hG1 n x
        · rw [List.mem_singleton.1 x]; exact ⟨⟨by omega, by omega⟩, hw⟩
      · dsimp only at h1 ⊢
        rw [List.mem_append, List.mem_singleton]
        by_cases e : n = (i : Int)
        · exact .inr e
        · exact .inl (hG2 n hn (by omega) h2)
    | false =>
      rw [cond_false]
      refine ih (i + 1, l) ⟨by dsimp only; omega, by dsimp only; omega, hG1, fun n hn h1 h2 => ?_⟩ (by dsimp only; omega) _ rfl
      dsimp only at h1 ⊢
      by_cases e : n = (i : Int)
      · subst e
        unfold Wk at h2
        rw [hw] at h2
        cases h2
      · exact hG2 n hn (by omega) h2
  · rw [if_neg q]
    have hul : u ∈ l := hG2 u hu (by unfold GC at hu; omega) hG.walk
    have hpos : 0 < l.length := List.length_pos_of_mem hul
    have b2 := within_b a2 (l.length : Int) (by omega)
    have b3 := within_b a3 (l.length : Int) (by omega)
    rw [within_eq a2 _ (by omega) (by omega), within_eq a3 _ (by omega) (by omega)]
    simp only [Option.bind_some]
    generalize within a2 (l.length : Int) = p at b2 ⊢
    generalize within a3 (l.length : Int) = r at b3 ⊢
    have mem : ∀ x : Int, 0 ≤ x → x < l.length → l.getD x.toNat 0 ∈ l := fun x h1 h2 => by
      rw [List.getD_eq_getElem?_getD, List.getElem?_eq_getElem (by omega)]
      exact List.getElem_mem _
    obtain ⟨g1, k1⟩ := hG1 _ (mem p (by omega) (by omega))
    obtain ⟨g2, k2⟩ := hG1 _ (mem r (by omega) (by omega))
    rw [inR (i := p) (by omega), inR (i := r) (by omega), cond_true, cond_true]
    generalize l.getD p.toNat 0 = at0 at *
    generalize l.getD r.toNat 0 = goal at *
    refine OK.callR (rfield_is c hcb [] [goal] (by simp)) fun y hy => ?_
    obtain ⟨f, uu⟩ := y
    dsimp only at hy ⊢
    have hfl := hy.len
    have lk := (hG.all goal g2 k2).symm.trans (hG.all at0 g1 k1)
    have hp := link_field hy lk
    have g1' := g1
    unfold GC at g1'
    rw [inR (i := at0) (by omega), cond_true]
    exact leads c hcb hcl goal at0 g1 f hy hp
end Go.Proofs.Ytldgilfchpfblaa.Nav
namespace Go.Proofs.Ytldgilfchpfblaa.Pure
open Go Go.Proofs.Ytldgilfchpfblaa.Mx Go.Proofs.Ytldgilfchpfblaa.Pc Go.Proofs.Ytldgilfchpfblaa.Run Go.Proofs.Ytldgilfchpfblaa.Field Go.Proofs.Ytldgilfchpfblaa.Gen Go.Proofs.Ytldgilfchpfblaa.GenL
theorem NavLeads (a0 : Int) (w0 : (Lit.int .i64 a0).wf = true) (a1 : Int) (w1 : (Lit.int .i64 a1).wf = true) (a2 : Int) (w2 : (Lit.int .i64 a2).wf = true) (a3 : Int) (w3 : (Lit.int .i64 a3).wf = true) : f3 a0 a1 a2 a3 = some (true, ()) := Go.Proofs.Ytldgilfchpfblaa.Nav.NavLeads a0 w0 a1 w1 a2 w2 a3 w3
end Go.Proofs.Ytldgilfchpfblaa.Pure

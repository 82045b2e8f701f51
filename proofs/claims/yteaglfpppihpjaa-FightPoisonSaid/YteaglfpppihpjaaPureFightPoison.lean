/- The law FightPoison, in plain words (own work). -/
import Derived.Test.YteaglfpppihpjaaFightLaw
namespace Go.Proofs.Yteaglfpppihpjaa.Pure
open Go Go.Proofs.Yteaglfpppihpjaa.Mx Go.Proofs.Yteaglfpppihpjaa.Pc Go.Proofs.Yteaglfpppihpjaa.Run Go.Proofs.Yteaglfpppihpjaa.Field Go.Proofs.Yteaglfpppihpjaa.Gen Go.Proofs.Yteaglfpppihpjaa.GenL Go.Proofs.Yteaglfpppihpjaa.Fl Go.Proofs.Yteaglfpppihpjaa.Wd Go.Proofs.Yteaglfpppihpjaa.Ft
set_option linter.unusedVariables false
set_option linter.unusedSimpArgs false
set_option maxHeartbeats 1000000
/-- One frame of a row alone. -/
def fade (e : EntT) : EntT :=
  if kd e = 0 then e
  else
    let e1 := if 0 < sn e then setSn e (sn e - 1) else e
    if 0 < po e1 then (if 1 < hp e1 then setHP (setPo e1 (po e1 - 1)) (hp e1 - 1) else freeE (setPo e1 (po e1 - 1))) else e1
theorem dead_row {l : List EntT} {i : Nat} (h : kd (l.getD i eN) = 0) : alive l (i : Int) = false := by
  unfold alive
  rw [Int.toNat_natCast]
  have : ((l.getD i eN).1 != 0) = false := by
    have h' : (l.getD i eN).1 = 0 := h
    rw [h']; rfl
  rw [this, Bool.and_false]
theorem ail1_solo {l : List EntT} {its : List ItT} {h : Nat} (hh : h < l.length) : (ail1 l its h).1 = l.set h (fade (l.getD h eN)) := by
  have self : ∀ d, l.set h (l.getD h d) = l := fun d => by
    apply List.ext_getElem (by simp)
    intro j h1 h2
    rw [List.getElem_set]
    split
    · rename_i e; subst e
      rw [List.getD_eq_getElem?_getD, List.getElem?_eq_getElem h2]; rfl
    · rfl
  unfold ail1 fade
  by_cases k0 : kd (l.getD h eN) = 0
  · rw [dead_row k0, if_pos rfl, if_pos k0, self]
  · rw [alive_nat hh k0, if_neg (by decide), if_neg k0]
    dsimp only
    have e1 : (if 0 < sn (l.getD h eN) then l.set h (setSn (l.getD h eN) (sn (l.getD h eN) - 1)) else l) = l.set h (if 0 < sn (l.getD h eN) then setSn (l.getD h eN) (sn (l.getD h eN) - 1) else l.getD h eN) := by
      split
      · rfl
      · exact (self eN).symm
    have k1 : kd (if 0 < sn (l.getD h eN) then setSn (l.getD h eN) (sn (l.getD h eN) - 1) else l.getD h eN) ≠ 0 := by
      split
      · exact k0
      · exact k0
    rw [e1]
    generalize (if 0 < sn (l.getD h eN) then setSn (l.getD h eN) (sn (l.getD h eN) - 1) else l.getD h eN) = e at *
    have g : (l.set h e).getD h eN = e := by rw [getD_set' _ _ _ _ _ hh, if_pos rfl]
    rw [g, List.set_set]
    by_cases p : 0 < po e
    · rw [if_pos p, if_pos p]
      have g2 : (l.set h (setPo e (po e - 1))).getD h eN = setPo e (po e - 1) := by rw [getD_set' _ _ _ _ _ hh, if_pos rfl]
      have al : alive (l.set h (setPo e (po e - 1))) (h : Int) = true := alive_nat (by rw [List.length_set]; exact hh) (by rw [g2]; exact k1)
      unfold hurt
      rw [if_neg (by rw [al]; decide), Int.toNat_natCast, g2]
      have hh' : hp (setPo e (po e - 1)) = hp e := rfl
      rw [hh']
      by_cases q : 1 < hp e
      · rw [if_pos q, if_pos q, List.set_set]
      · rw [if_neg q, if_neg q, List.set_set]
    · rw [if_neg p, if_neg p]
theorem ail1_dead {l : List EntT} {its : List ItT} {i : Nat} (h : kd (l.getD i eN) = 0) : (ail1 l its i).1 = l := by
  unfold ail1
  rw [dead_row h, if_pos rfl]
/-- A frame of a hero alone. -/
theorem ail_solo {l : List EntT} {its : List ItT} {h : Nat} (hh : h < l.length) (hs : ∀ i, i ≠ h → kd (l.getD i eN) = 0) : ∀ n, (ail l its n).1 = if h < n then l.set h (fade (l.getD h eN)) else l
  | 0 => rfl
  | n + 1 => by
    rw [ail_succ]
    have ih := ail_solo (its := its) hh hs n
    by_cases e : n = h
    · subst e
      rw [if_neg (Nat.lt_irrefl _)] at ih
      have : (ail1 (ail l its n).1 (ail l its n).2 n).1 = (ail1 l (ail l its n).2 n).1 := by rw [ih]
      rw [this, ail1_solo hh, if_pos (by omega)]
    · have hd : kd ((ail l its n).1.getD n eN) = 0 := by
        rw [ih]
        split
        · rw [getD_set' _ _ _ _ _ hh, if_neg (fun z => e z.symm)]
          exact hs n e
        · exact hs n e
      rw [ail1_dead hd, ih]
      by_cases q : h < n
      · rw [if_pos q, if_pos (by omega)]
      · rw [if_neg q, if_neg (by omega)]
def fades : Nat → EntT → EntT
  | 0, e => e
  | n + 1, e => fade (fades n e)
/-- What is left behind so many frames. -/
theorem fades_is (e : EntT) (hk : kd e = 1) (hH : 1 ≤ hp e) (hP : 0 ≤ po e) (hS : 0 ≤ sn e) : ∀ n : Nat,
    (min (n : Int) (po e) < hp e → kd (fades n e) = 1 ∧ hp (fades n e) = hp e - min (n : Int) (po e) ∧ po (fades n e) = po e - min (n : Int) (po e) ∧ sn (fades n e) = max 0 (sn e - n)) ∧ (hp e ≤ min (n : Int) (po e) → kd (fades n e) = 0)
  | 0 => ⟨fun _ => ⟨hk, by show hp e = _; omega, by show po e = _; omega, by show sn e = _; omega⟩, fun h => by omega⟩
  | n + 1 => by
    obtain ⟨h1, h2⟩ := fades_is e hk hH hP hS n
    have ef : fades (n + 1) e = fade (fades n e) := rfl
    rw [ef]
    generalize fades n e = x at *
    by_cases d : hp e ≤ min (n : Int) (po e)
    · have k0 := h2 d
      have : fade x = x := by unfold fade; rw [if_pos k0]
      rw [this]
      exact ⟨fun z => by omega, fun _ => k0⟩
    · obtain ⟨k1, k2, k3, k4⟩ := h1 (by omega)
      have nk : ¬ kd x = 0 := by omega
      unfold fade
      rw [if_neg nk]
      dsimp only
      have s1 : kd (if 0 < sn x then setSn x (sn x - 1) else x) = 1 := by split <;> exact k1
      have s2 : hp (if 0 < sn x then setSn x (sn x - 1) else x) = hp x := by split <;> rfl
      have s3 : po (if 0 < sn x then setSn x (sn x - 1) else x) = po x := by split <;> rfl
      have s4 : sn (if 0 < sn x then setSn x (sn x - 1) else x) = max 0 (sn x - 1) := by
        split
        · show sn x - 1 = _; omega
        · omega
      generalize (if 0 < sn x then setSn x (sn x - 1) else x) = y at *
      by_cases p : 0 < po y
      · rw [if_pos p]
        by_cases q : 1 < hp y
        · rw [if_pos q]
          refine ⟨fun z => ⟨s1, ?_, ?_, ?_⟩, fun z => by omega⟩
          · show hp y - 1 = _; omega
          · show po y - 1 = _; omega
          · show sn y = _; omega
        · rw [if_neg q]
          exact ⟨fun z => by omega, fun _ => rfl⟩
      · rw [if_neg p]
        exact ⟨fun z => ⟨s1, by omega, by omega, by omega⟩, fun z => by omega⟩
theorem FightPoison (a0 : Int) (w0 : (Lit.int .i64 a0).wf = true) (a1 : Int) (w1 : (Lit.int .i64 a1).wf = true) (a2 : Int) (w2 : (Lit.int .i64 a2).wf = true) (a3 : Int) (w3 : (Lit.int .i64 a3).wf = true) (a4 : Int) (w4 : (Lit.int .i64 a4).wf = true) : f6 a0 a1 a2 a3 a4 = some (true, ()) := by
  refine OK.eq ?_
  unfold f6
  rw [Ft.known_eq]
  simp only [Option.bind_some, Bool.not_true, cond_false]
  refine OK.callR (world_is 3 0 0 1 [] (by decide) 0) ?_
  rintro z ⟨its, rfl, hI, hN⟩
  have hits := hN rfl
  subst hits
  have w04 : within 0 4 = 0 := by decide
  have w010 : within 0 1000 = 0 := by decide
  have w132 : (within 1 32).toNat = 1 := by decide
  rw [w04]
  have hC := COk.one 3 (1 + within 0 3) 1 0 rfl
  have hcl := cells_len 3 (1 + within 0 3)
  have hl := hC.ok.len
  have gR : ∀ j, (List.replicate 32 eN).getD j eN = eN := fun j => by
    rw [List.getD_eq_getElem?_getD, List.getElem?_replicate]
    split <;> rfl
  have g : ∀ j, (entsW 3 (1 + within 0 3) 0 1).getD j eN = if 1 = j then heroE 3 (1 + within 0 3) 0 1 else eN := fun j => by
    unfold entsW
    rw [w132]
    have := getD_set' (List.replicate 32 eN) 1 j (heroE 3 (1 + within 0 3) 0 1) eN (by rw [List.length_replicate]; decide)
    rw [gR] at this
    exact this
  obtain ⟨h, hh, eh, hk, hs⟩ := hero_is hl hC.hero
  have h1 : h = 1 := by
    rw [g] at hk
    by_cases e : 1 = h
    · exact e.symm
    · rw [if_neg e] at hk; exact absurd hk (by decide)
  subst h1
  have b1 := within_b a1 20 (by decide)
  have b2 := within_b a2 10 (by decide)
  have b3 := within_b a3 10 (by decide)
  have b4 := within_b a4 12 (by decide)
  dsimp only
  rw [rhero_eq _ (by omega), eh]
  simp only [Option.bind_some]
  rw [within8_eq a1 20 (by decide) (by decide)]
  simp only [Option.bind_some]
  rw [within8_eq a2 10 (by decide) (by decide)]
  simp only [Option.bind_some]
  rw [within8_eq a3 10 (by decide) (by decide)]
  simp only [Option.bind_some]
  have hpos := hC.pos 1 (by decide) (by rw [hk]; decide)
  generalize entsW 3 (1 + within 0 3) 0 1 = l at *
  generalize cells 3 (1 + within 0 3) = c at *
  have it : Int.toNat ((1 : Nat) : Int) = 1 := rfl
  have ir : inRange ((1 : Nat) : Int) 32 = true := rfl
  have ts : ∀ {A : Type} (x : List A) (i : Nat) (v : A), (x.set i v).length = x.length := fun x i v => List.length_set
  simp only [it, ts, hl, ir, cond_true]
  have e0 : l.getD 1 (0, 0, 0, 0, 0, 0, 0, 0, 0, 0, 0) = l.getD 1 eN := rfl
  -- the three stores
  have s0 : ∀ v, l.set 1 ((l.getD 1 eN).1, (l.getD 1 eN).2.1, (l.getD 1 eN).2.2.1, (l.getD 1 eN).2.2.2.1, (l.getD 1 eN).2.2.2.2.1, v, (l.getD 1 eN).2.2.2.2.2.2.1, (l.getD 1 eN).2.2.2.2.2.2.2.1, (l.getD 1 eN).2.2.2.2.2.2.2.2.1, (l.getD 1 eN).2.2.2.2.2.2.2.2.2.1, (l.getD 1 eN).2.2.2.2.2.2.2.2.2.2) = l.set 1 (setHP (l.getD 1 eN) v) := fun _ => rfl
  have gset : ∀ (x : EntT), (l.set 1 x).getD 1 (0, 0, 0, 0, 0, 0, 0, 0, 0, 0, 0) = x := fun x => by
    have := getD_set' l 1 1 x eN (by omega)
    rw [if_pos rfl] at this
    exact this
  simp only [gset, List.set_set]
  rw [wr (x := 1 + within a1 20) (by omega), within8_eq a4 12 (by decide) (by decide)]
  simp only [Option.bind_some]
  generalize within a1 20 = H at *
  generalize within a2 10 = P at *
  generalize within a3 10 = S at *
  generalize within a4 12 = F at *
  -- the hero as it is set
  obtain ⟨E, hE, eK, eH, eP, eS, eM, eA, eD, eT⟩ : ∃ E : EntT, E = (kd (l.getD 1 eN), gn (l.getD 1 eN), st (l.getD 1 eN), ex (l.getD 1 eN), ey (l.getD 1 eN), 1 + H, mxh (l.getD 1 eN), atk (l.getD 1 eN), df (l.getD 1 eN), P, S) ∧ kd E = 1 ∧ hp E = 1 + H ∧ po E = P ∧ sn E = S ∧ mxh E = mxh (l.getD 1 eN) ∧ atk E = atk (l.getD 1 eN) ∧ df E = df (l.getD 1 eN) ∧ st E = 0 := ⟨_, rfl, hk, rfl, rfl, rfl, rfl, rfl, rfl, hs⟩
  have hm : mxh (l.getD 1 eN) = 20 := by
    have := g 1
    rw [if_pos rfl] at this
    rw [this]; rfl
  have hat : atk (l.getD 1 eN) = 5 ∧ df (l.getD 1 eN) = 1 := by
    have := g 1
    rw [if_pos rfl] at this
    rw [this]; exact ⟨rfl, rfl⟩
  have hO : LOk (l.set 1 E) := hC.ok.set 1 (.inr (by omega))
  have hs1 : ∀ i, i ≠ 1 → kd ((l.set 1 E).getD i eN) = 0 := fun i hi => by
    rw [getD_set' _ _ _ _ _ (by omega), if_neg (fun z => hi z.symm), g, if_neg (fun z => hi z.symm)]
    rfl
  unfold f6.L1
  refine OK.loop (fun j : Nat × List ItT => (1 + H, P, S, F, ((1 : Nat) : Int), (j.1 : Int), 3, 0, 1 + within 0 3, 0, goldOf 0 (within 0 1000) 0, goldOf 0 (within 0 1000) 1, goldOf 0 (within 0 1000) 2, goldOf 0 (within 0 1000) 3, c, l.set 1 (fades j.1 E), j.2, ())) (fun j => (j.1 : Int) ≤ F ∧ LOk (l.set 1 (fades j.1 E)) ∧ IOk j.2) (fun j => F.toNat - j.1) (fun rec j hj ih => ?_) (0, List.replicate 40 iN) (by
    show _ = (1 + H, P, S, F, ((1 : Nat) : Int), ((0 : Nat) : Int), 3, 0, 1 + within 0 3, 0, goldOf 0 (within 0 1000) 0, goldOf 0 (within 0 1000) 1, goldOf 0 (within 0 1000) 2, goldOf 0 (within 0 1000) 3, c, l.set 1 E, List.replicate 40 iN, ())
    rw [hE]
    rfl) ⟨by dsimp only; omega, hO, its_iok hI⟩ (by dsimp only; omega)
  obtain ⟨n, its⟩ := j
  obtain ⟨hn, hO1, hI1⟩ := hj
  dsimp only at hn hO1 hI1 ih ⊢
  rw [bif_dec]
  have g1 : (l.set 1 (fades n E)).getD 1 eN = fades n E := by rw [getD_set' _ _ _ _ _ (by omega), if_pos rfl]
  have hs2 : ∀ i, i ≠ 1 → kd ((l.set 1 (fades n E)).getD i eN) = 0 := fun i hi => by
    rw [getD_set' _ _ _ _ _ (by omega), if_neg (fun z => hi z.symm), g, if_neg (fun z => hi z.symm)]
    rfl
  by_cases q : (n : Int) < F
  · have ha := ail_ok hO1 hI1 32
    have hso := ail_solo (its := its) (h := 1) (by rw [List.length_set]; omega) hs2 32
    rw [if_pos (by decide), g1, List.set_set] at hso
    rw [if_pos q, ail_eq 3 0 (1 + within 0 3) 0 c _ _ _ _ (by omega) hO1 hI1, hso]
    simp only [Option.bind_some]
    rw [wr (by omega)]
    rw [hso] at ha
    have ef : fades (n + 1) E = fade (fades n E) := rfl
    have go := ih (n + 1, (ail (l.set 1 (fades n E)) its 32).2)
    dsimp only at go
    rw [ef] at go
    generalize fade (fades n E) = E' at *
    generalize (ail (l.set 1 (fades n E)) its 32).2 = its' at *
    exact go ⟨by omega, ha.1, ha.2.1⟩ (by omega) _ rfl
  · have eF : (n : Int) = F := by omega
    have hf := fades_is E eK (by omega) (by omega) (by omega) n
    have g2 : (l.set 1 (fades n E)).getD (Int.toNat ((1 : Nat) : Int)) (0, 0, 0, 0, 0, 0, 0, 0, 0, 0, 0) = fades n E := g1
    rw [if_neg q, bif_dec, List.length_set, hl, inR (by omega), cond_true, cond_true, cond_true, cond_true, g2, minI_eq]
    by_cases z : min F P ≥ 1 + H
    · have := hf.2 (by omega)
      have k0 : ((fades n E).1 == 0) = true := beq_iff_eq.2 this
      rw [if_pos z, k0]
      exact OK.ret rfl
    · obtain ⟨k1, k2, k3, k4⟩ := hf.1 (by omega)
      have x1 : (fades n E).2.2.2.2.2.1 = hp (fades n E) := rfl
      have x2 : (fades n E).2.2.2.2.2.2.2.2.2.1 = po (fades n E) := rfl
      have x3 : (fades n E).2.2.2.2.2.2.2.2.2.2 = sn (fades n E) := rfl
      rw [if_neg z, x1, x2, x3, wr (x := 1 + H - min F P) (by omega), wr (x := P - min F P) (by omega), wr (x := S - F) (by omega), maxI_eq, k2, k3, k4, eH, eP, eS, eF]
      simp only [beq_self_eq_true, cond_true]
      exact OK.ret rfl
end Go.Proofs.Yteaglfpppihpjaa.Pure

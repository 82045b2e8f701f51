/- The law GoodsWears, in plain words (own work). -/
import Derived.Test.YtdbfecfcoephoaaGoodsF
namespace Go.Proofs.Ytdbfecfcoephoaa.Pure
open Go Go.Proofs.Ytdbfecfcoephoaa.Mx Go.Proofs.Ytdbfecfcoephoaa.Pc Go.Proofs.Ytdbfecfcoephoaa.Run Go.Proofs.Ytdbfecfcoephoaa.Field Go.Proofs.Ytdbfecfcoephoaa.Gen Go.Proofs.Ytdbfecfcoephoaa.GenL Go.Proofs.Ytdbfecfcoephoaa.Fl Go.Proofs.Ytdbfecfcoephoaa.Wd Go.Proofs.Ytdbfecfcoephoaa.Gd
set_option linter.unusedVariables false
set_option linter.unusedSimpArgs false
set_option maxHeartbeats 1000000
def bon (its : List ItT) (s : Int) : Int × Int := (if inI its 3 s 0 < 0 then 0 else 3, if inI its 3 s 1 < 0 then 0 else 2)
section
variable (a0 a1 a2 a3 : Int) (c : List Int) (a7 a8 a9 a10 : Int)
theorem bonus_eq {its : List ItT} (hi : IOk its) {l : List EntT} (s : Int) : f22 a0 a1 a2 a3 c l its a7 a8 a9 a10 s = some ((bon its s).1, (bon its s).2, ()) := by
  unfold f22 bon
  rw [find_eq a0 a1 a2 a3 c a7 a8 a9 a10 hi 3 s 0 (by decide)]
  simp only [Option.bind_some]
  have h1 := find_eq a0 a1 a2 a3 c a7 a8 a9 a10 hi (l := l) 3 s 1 (by decide)
  rw [bif_dec]
  by_cases q0 : inI its 3 s 0 < 0
  · rw [if_neg (by omega), if_pos q0]
    simp only [Option.bind_some, Sum.elim_inl]
    rw [h1]
    simp only [Option.bind_some]
    rw [bif_dec]
    by_cases q1 : inI its 3 s 1 < 0
    · rw [if_neg (by omega), if_pos q1]; rfl
    · rw [if_pos (by omega), if_neg q1]; rfl
  · rw [if_pos (by omega), if_neg q0]
    simp only [Option.bind_some, Sum.elim_inl]
    rw [h1]
    simp only [Option.bind_some]
    rw [bif_dec]
    by_cases q1 : inI its 3 s 1 < 0
    · rw [if_neg (by omega), if_pos q1]; rfl
    · rw [if_pos (by omega), if_neg q1]; rfl
end
/-- Items in the rows 5 and 9 alone. -/
def wi (x y : ItT) : List ItT := ((List.replicate 40 iN).set 5 x).set 9 y
theorem wi_len (x y : ItT) : (wi x y).length = 40 := by simp [wi]
theorem wi_get (x y : ItT) (i : Nat) : (wi x y).getD i iN = if 9 = i then y else if 5 = i then x else iN := by
  unfold wi
  rw [set_get (by simp) (by decide), set_get (by simp) (by decide), rep_get]
theorem wi_9 (x y : ItT) : (wi x y).getD 9 iN = y := by rw [wi_get, if_pos rfl]
theorem wi_5 (x y : ItT) : (wi x y).getD 5 iN = x := by rw [wi_get, if_neg (by decide), if_pos rfl]
theorem wi_set5 (x y z : ItT) : (wi x y).set 5 z = wi z y := items_ext (by rw [List.length_set]; exact wi_len _ _) (wi_len _ _) fun i hi => by
  rw [set_get (wi_len _ _) (by decide), wi_get, wi_get]
  by_cases h : 9 = i
  · rw [if_neg (by omega), if_pos h, if_pos h]
  · by_cases h5 : 5 = i
    · rw [if_pos h5, if_neg h, if_pos h5]
    · rw [if_neg h5, if_neg h, if_neg h5, if_neg h, if_neg h5]
theorem wi_set9 (x y z : ItT) : (wi x y).set 9 z = wi x z := items_ext (by rw [List.length_set]; exact wi_len _ _) (wi_len _ _) fun i hi => by
  rw [set_get (wi_len _ _) (by decide), wi_get, wi_get]
  by_cases h : 9 = i
  · rw [if_pos h, if_pos h]
  · rw [if_neg h, if_neg h, if_neg h]
theorem wi_in5 {x y : ItT} {w a b : Int} (hw : w ≠ 0) (h : x.2 = (w, a, b)) : inI (wi x y) w a b = 5 :=
  inI_is (k := 5) (wi_len _ _) (by decide) (by rw [wi_5]; exact h) fun j hj => by
    rw [wi_get, if_neg (by omega), if_neg (by omega)]
    exact fun z => hw (congrArg Prod.fst z).symm
theorem wi_in9 {x y : ItT} {w a b : Int} (hw : w ≠ 0) (h : y.2 = (w, a, b)) (hx : x.2 ≠ (w, a, b)) : inI (wi x y) w a b = 9 :=
  inI_is (k := 9) (wi_len _ _) (by decide) (by rw [wi_9]; exact h) fun j hj => by
    rw [wi_get, if_neg (by omega)]
    split
    · exact hx
    · exact fun z => hw (congrArg Prod.fst z).symm
theorem wi_no {x y : ItT} {w a b : Int} (hw : w ≠ 0) (hx : x.2 ≠ (w, a, b)) (hy : y.2 ≠ (w, a, b)) : inI (wi x y) w a b = -1 :=
  inI_no (wi_len _ _) fun j hj => by
    rw [wi_get]
    split
    · exact hy
    · split
      · exact hx
      · exact fun z => hw (congrArg Prod.fst z).symm
theorem wi_ok {c : List Int} {x y : ItT} (hx : 1 ≤ x.1 ∧ x.1 ≤ 4 ∧ Placed c x) (hy : y = iN ∨ (1 ≤ y.1 ∧ y.1 ≤ 4 ∧ Placed c y ∧ x.2 ≠ y.2)) : ItsOk c (wi x y) := by
  have h := one_item (c := c) ⟨hx.1, hx.2.1⟩ hx.2.2 5 (by decide)
  unfold wi
  rcases hy with rfl | ⟨h1, h2, h3, h4⟩
  · exact h.drop 9
  · refine h.put (by decide) ⟨h1, h2⟩ h3 fun i hi hne => ?_
    rw [set_get (by simp) (by decide), rep_get]
    split
    · exact h4
    · intro z
      have := h3.wh
      rw [← z] at this
      exact absurd this.1 (by decide)
theorem ne2 {a b : Int} {p q : Int × Int} (h : a ≠ b) : (a, p) ≠ (b, q) := fun z => h (congrArg Prod.fst z)
theorem n23 {K : Int} {p q : Int × Int} : ((K, 2, p) : ItT).2 ≠ (3, q) := ne2 (a := 2) (b := 3) (by decide)
theorem n32 {K : Int} {p q : Int × Int} : ((K, 3, p) : ItT).2 ≠ (2, q) := ne2 (a := 3) (b := 2) (by decide)
theorem n02 {q : Int × Int} : iN.2 ≠ (2, q) := ne2 (a := 0) (b := 2) (by decide)
theorem n03 {q : Int × Int} : iN.2 ≠ (3, q) := ne2 (a := 0) (b := 3) (by decide)
theorem nes {a w x y : Int} (h : x ≠ y) : (w, a, x) ≠ (w, a, y) := fun z => h (congrArg (fun z => z.2.2) z)
/-- What is in slot b is put on; what was worn comes into it. -/
theorem wear_once {K v : Int} {b : Nat} (hK : K - 2 = v) (hk : 2 ≤ K ∧ K ≤ 3) (hb : b < 4) (old : Bool) :
    wearP (wi (K, 2, 0, (b : Int)) (if old then (K, 3, 0, v) else iN)) 0 = wi (K, 3, 0, v) (if old then (K, 2, 0, (b : Int)) else iN) := by
  have hs : ∀ j : Nat, j ≠ b → inI (wi (K, 2, 0, (b : Int)) (if old then (K, 3, 0, v) else iN)) 2 0 j = -1 := fun j hj => wi_no (by decide) (nes (by omega)) (by
    cases old
    · exact n02
    · exact n32)
  have hbb : inI (wi (K, 2, 0, (b : Int)) (if old then (K, 3, 0, v) else iN)) 2 0 b = 5 := wi_in5 (by decide) rfl
  have hh : hold (wi (K, 2, 0, (b : Int)) (if old then (K, 3, 0, v) else iN)) 0 2 3 = 5 := by
    rw [hold_is hb (holdB_yes (k := 5) hbb (by rw [wi_5]; exact hk.1) (by rw [wi_5]; exact hk.2)) (fun j hj => holdB_no (by rw [hs j (by omega)]; decide)), hbb]
  unfold wearP wear1
  rw [hh, if_neg (by decide), show Int.toNat 5 = 5 from rfl, wi_5]
  dsimp only
  rw [hK]
  cases old with
  | false =>
    show (if inI (wi (K, 2, 0, (b : Int)) iN) 3 0 v < 0 then _ else _ : List ItT).set 5 _ = _
    rw [wi_no (by decide) n23 n03, if_pos (by decide)]
    show (wi (K, 2, 0, (b : Int)) iN).set 5 (((wi (K, 2, 0, (b : Int)) iN).getD 5 iN).1, 3, ((wi (K, 2, 0, (b : Int)) iN).getD 5 iN).2.2.1, v) = _
    rw [wi_5, wi_set5]
    rfl
  | true =>
    simp only [if_true]
    rw [wi_in9 (w := 3) (by decide) (by rfl) n23, if_neg (by decide), show Int.toNat 9 = 9 from rfl, wi_9, wi_set9, wi_5, wi_set5]
/-- With the new one worn: nothing is put on, or the old one from its slot. -/
theorem wear_twice {K v : Int} {b : Nat} (hK : K - 2 = v) (hk : 2 ≤ K ∧ K ≤ 3) (hb : b < 4) (old : Bool) :
    wearP (wi (K, 3, 0, v) (if old then (K, 2, 0, (b : Int)) else iN)) 0 = if old then wi (K, 2, 0, (b : Int)) (K, 3, 0, v) else wi (K, 3, 0, v) iN := by
  cases old with
  | false =>
    have hh : hold (wi (K, 3, 0, v) iN) 0 2 3 = -1 := hold_no fun j hj => holdB_no (by
      rw [wi_no (by decide) n32 n02]
      decide)
    show wearP (wi (K, 3, 0, v) iN) 0 = wi (K, 3, 0, v) iN
    unfold wearP
    rw [hh, if_pos (by decide)]
  | true =>
    show wearP (wi (K, 3, 0, v) (K, 2, 0, (b : Int))) 0 = wi (K, 2, 0, (b : Int)) (K, 3, 0, v)
    have hs : ∀ j : Nat, j ≠ b → inI (wi (K, 3, 0, v) (K, 2, 0, (b : Int))) 2 0 j = -1 := fun j hj => wi_no (by decide) n32 (nes (by omega))
    have hbb : inI (wi (K, 3, 0, v) (K, 2, 0, (b : Int))) 2 0 b = 9 := wi_in9 (w := 2) (by decide) rfl n32
    have hh : hold (wi (K, 3, 0, v) (K, 2, 0, (b : Int))) 0 2 3 = 9 := by
      rw [hold_is hb (holdB_yes (k := 9) hbb (by rw [wi_9]; exact hk.1) (by rw [wi_9]; exact hk.2)) (fun j hj => holdB_no (by rw [hs j (by omega)]; decide)), hbb]
    unfold wearP wear1
    rw [hh, if_neg (by decide), show Int.toNat 9 = 9 from rfl, wi_9]
    dsimp only
    rw [hK, wi_in5 (w := 3) (by decide) (by rfl), if_neg (by decide), show Int.toNat 5 = 5 from rfl, wi_5, wi_set5, wi_9, wi_set9]
theorem GoodsWears (a0 : Int) (w0 : (Lit.int .i64 a0).wf = true) (a1 : Bool) (a2 : Int) (w2 : (Lit.int .i64 a2).wf = true) (a3 : Bool) : f9 a0 a1 a2 a3 = some (true, ()) := by
  refine OK.eq ?_
  unfold f9
  rw [known_eq]
  simp only [Option.bind_some, Bool.not_true, cond_false]
  refine OK.callR (world_is a0 0 0 1 [] (by decide) 0) ?_
  rintro z ⟨its0, rfl, hI, hN⟩
  obtain rfl := hN rfl
  have s0 : within 0 4 = 0 := by decide
  rw [s0] at *
  dsimp only
  have hW := world_wi a0 (1 + within 0 3) 0 1 hI (gold_ok 0 0)
  have hc := cells_ok a0 (1 + within 0 3)
  have hh1 := (plain_hero a0 (1 + within 0 3) 0).1
  generalize cells a0 (1 + within 0 3) = c at *
  generalize entsW a0 (1 + within 0 3) 0 1 = l at *
  generalize 1 + within 0 3 = fl at *
  generalize goldOf 0 (within 0 1000) 0 = g0 at *
  generalize goldOf 0 (within 0 1000) 1 = g1 at *
  generalize goldOf 0 (within 0 1000) 2 = g2 at *
  generalize goldOf 0 (within 0 1000) 3 = g3 at *
  have bs := within_b a2 4 (by decide)
  rw [within7_eq a2 4 (by decide) (by decide)]
  simp only [Option.bind_some]
  generalize hb' : within a2 4 = bz at *
  obtain ⟨b, rfl⟩ : ∃ b : Nat, bz = b := ⟨bz.toNat, by omega⟩
  have hb : b < 4 := by omega
  have hll := hW.hp.1
  have main : ∀ (K v : Int) (mail : Bool), K - 2 = v → 2 ≤ K ∧ K ≤ 3 → (K = 3 ↔ mail = true) →
      OK (Option.bind (f14 a0 0 fl 0 c l (wi (K, 2, 0, (b : Int)) (if a3 then (K, 3, 0, v) else iN)) g0 g1 g2 g3 0 7) fun y9 =>
        Option.bind (f22 y9.1 y9.2.1 y9.2.2.1 y9.2.2.2.1 y9.2.2.2.2.2.2.2.2.1 y9.2.2.2.2.2.2.2.2.2.1 y9.2.2.2.2.2.2.2.2.2.2.1 y9.2.2.2.2.1 y9.2.2.2.2.2.1 y9.2.2.2.2.2.2.1 y9.2.2.2.2.2.2.2.1 0) fun y10 =>
        bif inRange 5 y9.2.2.2.2.2.2.2.2.2.2.1.length then
          bif (y9.2.2.2.2.2.2.2.2.2.2.1.getD 5 (0, 0, 0, 0)).2.1 != 3 then some (false, ()) else
          bif (y10.1 == 3) == mail then some (false, ()) else
          bif !(y10.2.1 == 2) == mail then some (false, ()) else
          Option.bind (f14 y9.1 y9.2.1 y9.2.2.1 y9.2.2.2.1 y9.2.2.2.2.2.2.2.2.1 y9.2.2.2.2.2.2.2.2.2.1 y9.2.2.2.2.2.2.2.2.2.2.1 y9.2.2.2.2.1 y9.2.2.2.2.2.1 y9.2.2.2.2.2.2.1 y9.2.2.2.2.2.2.2.1 0 7) fun y11 =>
            bif !a3 then Option.bind (f15 y11.1 y11.2.1 y11.2.2.1 y11.2.2.2.1 y11.2.2.2.2.2.2.2.2.1 y11.2.2.2.2.2.2.2.2.2.1 y11.2.2.2.2.2.2.2.2.2.2.1 y11.2.2.2.2.1 y11.2.2.2.2.2.1 y11.2.2.2.2.2.2.1 y11.2.2.2.2.2.2.2.1 y9.1 y9.2.1 y9.2.2.1 y9.2.2.2.1 y9.2.2.2.2.2.2.2.2.1 y9.2.2.2.2.2.2.2.2.2.1 y9.2.2.2.2.2.2.2.2.2.2.1 y9.2.2.2.2.1 y9.2.2.2.2.2.1 y9.2.2.2.2.2.2.1 y9.2.2.2.2.2.2.2.1) fun y12 => some (y12.1, ())
            else bif inRange 9 y9.2.2.2.2.2.2.2.2.2.2.1.length then
              bif (y9.2.2.2.2.2.2.2.2.2.2.1.getD 9 (0, 0, 0, 0)).2.1 == 2 then
                bif inRange 9 y9.2.2.2.2.2.2.2.2.2.2.1.length then
                  bif (y9.2.2.2.2.2.2.2.2.2.2.1.getD 9 (0, 0, 0, 0)).2.2.2 == (b : Int) then
                    Option.bind (f15 y11.1 y11.2.1 y11.2.2.1 y11.2.2.2.1 y11.2.2.2.2.2.2.2.2.1 y11.2.2.2.2.2.2.2.2.2.1 y11.2.2.2.2.2.2.2.2.2.2.1 y11.2.2.2.2.1 y11.2.2.2.2.2.1 y11.2.2.2.2.2.2.1 y11.2.2.2.2.2.2.2.1 a0 0 fl 0 c l (wi (K, 2, 0, (b : Int)) (if a3 then (K, 3, 0, v) else iN)) g0 g1 g2 g3) fun y13 => some (y13.1, ())
                  else some (false, ())
                else none
              else some (false, ())
            else none
        else none) fun z => z = (true, ()) := by
    intro K v mail hK hk hm
    have P2 : Placed c (K, 2, 0, (b : Int)) := .inr (.inl ⟨rfl, by show (0 : Int) ≤ 0; decide, by show (0 : Int) < 4; decide, by show (0 : Int) ≤ b; omega, by show (b : Int) < 4; omega, by show K ≠ 4; omega⟩)
    have P3 : Placed c (K, 3, 0, v) := .inr (.inr (.inl ⟨rfl, by show (0 : Int) ≤ 0; decide, by show (0 : Int) < 4; decide, by show (K = 2 ∧ v = 0) ∨ (K = 3 ∧ v = 1); omega⟩))
    have k1 : 1 ≤ K := by omega
    have k4 : K ≤ 4 := by omega
    have I1 : ItsOk c (wi (K, 2, 0, (b : Int)) (if a3 then (K, 3, 0, v) else iN)) := wi_ok ⟨k1, k4, P2⟩ (by
      cases a3
      · exact .inl rfl
      · exact .inr ⟨k1, k4, P3, n23⟩)
    have I2 : ItsOk c (wi (K, 3, 0, v) (if a3 then (K, 2, 0, (b : Int)) else iN)) := wi_ok ⟨k1, k4, P3⟩ (by
      cases a3
      · exact .inl rfl
      · exact .inr ⟨k1, k4, P2, n32⟩)
    have D : ∀ its, doP c l its g0 g1 g2 g3 0 7 = (g0, g1, g2, g3, l, wearP its 0) := fun its => by
      unfold doP
      rw [hh1, if_neg (by decide), if_neg (by decide), if_neg (by decide), if_pos rfl]
    rw [do_eq a0 0 fl 0 c hc.b hc.len hW.hp I1 hW.gold, D, wear_once hK hk hb]
    simp only [Option.bind_some]
    rw [bonus_eq a0 0 fl 0 c g0 g1 g2 g3 (its_iok I2)]
    simp only [Option.bind_some]
    rw [wi_len, show inRange 5 40 = true from by decide, cond_true]
    have e5 : (wi (K, 3, 0, v) (if a3 then (K, 2, 0, (b : Int)) else iN)).getD 5 (0, 0, 0, 0) = (K, 3, 0, v) := wi_5 _ _
    have e9 : (wi (K, 3, 0, v) (if a3 then (K, 2, 0, (b : Int)) else iN)).getD 9 (0, 0, 0, 0) = if a3 then (K, 2, 0, (b : Int)) else iN := wi_9 _ _
    rw [e5]
    dsimp only
    rw [bne_self_eq_false, cond_false]
    have worn : ∀ u : Int, inI (wi (K, 3, 0, v) (if a3 then (K, 2, 0, (b : Int)) else iN)) 3 0 u = if v = u then 5 else -1 := fun u => by
      by_cases h : v = u
      · rw [if_pos h]
        exact wi_in5 (x := (K, 3, 0, v)) (w := 3) (by decide) (by rw [h])
      · rw [if_neg h]
        refine wi_no (x := (K, 3, 0, v)) (w := 3) (by decide) (nes (w := 3) h) ?_
        cases a3
        · exact n03
        · exact n23
    have eb : bon (wi (K, 3, 0, v) (if a3 then (K, 2, 0, (b : Int)) else iN)) 0 = (if v = 0 then 3 else 0, if v = 1 then 2 else 0) := by
      unfold bon
      rw [worn, worn]
      by_cases h : v = 0
      · have h1 : ¬ v = 1 := by omega
        simp [h]
      · by_cases h1 : v = 1
        · simp [h1]
        · simp [h, h1]
    rw [eb]
    dsimp only
    have c1 : (((if v = 0 then (3 : Int) else 0) == 3) == mail) = false := by
      cases mail with
      | true =>
        have := hm.2 rfl
        rw [if_neg (by omega)]; rfl
      | false =>
        have : K ≠ 3 := fun z => by have := hm.1 z; cases this
        rw [if_pos (by omega)]; rfl
    have c2 : (!(((if v = 1 then (2 : Int) else 0) == 2) == mail)) = false := by
      cases mail with
      | true =>
        have := hm.2 rfl
        rw [if_pos (by omega)]; rfl
      | false =>
        have : K ≠ 3 := fun z => by have := hm.1 z; cases this
        rw [if_neg (by omega)]; rfl
    rw [c1, cond_false, c2, cond_false, do_eq a0 0 fl 0 c hc.b hc.len hW.hp I2 hW.gold, D, wear_twice hK hk hb]
    simp only [Option.bind_some]
    cases a3 with
    | false =>
      have hwl := wi_len (K, 3, 0, v) iN
      rw [Bool.not_false, cond_true]
      have := same_eq a0 0 fl 0 g0 g1 g2 g3 c l (wi (K, 3, 0, v) iN) (by omega) (by omega)
      refine OK.callR (R := fun z => z = (true, ())) ⟨_, this, rfl⟩ ?_
      rintro z rfl
      exact OK.ret rfl
    | true =>
      have hwl := wi_len (K, 2, 0, (b : Int)) (K, 3, 0, v)
      rw [Bool.not_true, cond_false, show inRange 9 40 = true from by decide, cond_true, e9, if_pos rfl]
      dsimp only
      rw [beq_self_eq_true, cond_true, beq_self_eq_true, cond_true]
      have := same_eq a0 0 fl 0 g0 g1 g2 g3 c l (wi (K, 2, 0, (b : Int)) (K, 3, 0, v)) (by omega) (by omega)
      refine OK.callR (R := fun z => z = (true, ())) ⟨_, this, rfl⟩ ?_
      rintro z rfl
      exact OK.ret rfl
  have r5 : inRange 5 (List.replicate 40 iN).length = true := by decide
  have noold : ∀ x : ItT, (List.replicate 40 iN).set 5 x = wi x iN := fun x => items_ext (by simp) (wi_len _ _) fun i hi => by
    rw [set_get (by simp) (by decide), rep_get, wi_get]
    by_cases h : 9 = i
    · rw [if_neg (by omega), if_pos h]
    · rw [if_neg h]
  refine OK.callR (R := fun z => ∃ (K v : Int), z = Sum.inl (a1, (b : Int), a3, a0, 0, fl, 0, g0, g1, g2, g3, K, 2, 0, (b : Int), c, l, List.replicate 40 iN, ()) ∧ K - 2 = v ∧ (2 ≤ K ∧ K ≤ 3) ∧ (K = 3 ↔ a1 = true)) ?_ ?_
  · cases a1 with
    | true => exact OK.ret ⟨3, 1, rfl, by decide, by decide, by decide⟩
    | false => exact OK.ret ⟨2, 0, rfl, by decide, by decide, by decide⟩
  · rintro z ⟨K, v, rfl, hK, hk, hm⟩
    simp only [Sum.elim_inl]
    rw [r5, cond_true]
    have go := main K v a1 hK hk hm
    refine OK.callR (R := fun z => z = Sum.inl (a1, (b : Int), a3, a0, 0, fl, 0, g0, g1, g2, g3, c, l, wi (K, 2, 0, (b : Int)) (if a3 then (K, 3, 0, v) else iN), ())) ?_ ?_
    · cases a3 with
      | true =>
        rw [wr (x := K - 2) (by omega), hK]
        exact OK.ret rfl
      | false =>
        rw [noold]
        exact OK.ret rfl
    · rintro z rfl
      exact go
end Go.Proofs.Ytdbfecfcoephoaa.Pure

/- The law GenReaches, in plain words (own work). -/
import Derived.Test.YtbekimnigknapaaGenLaw
namespace Go.Proofs.Ytbekimnigknapaa.Pure
open Go Go.Proofs.Ytbekimnigknapaa.Mx Go.Proofs.Ytbekimnigknapaa.Pc Go.Proofs.Ytbekimnigknapaa.Run Go.Proofs.Ytbekimnigknapaa.Field Go.Proofs.Ytbekimnigknapaa.Gen Go.Proofs.Ytbekimnigknapaa.GenL Go.Proofs.Ytbekimnigknapaa.Fl
set_option linter.unusedVariables false
set_option linter.unusedSimpArgs false
def cv (c : List Int) (v : Int) (n : Nat) : Int := ((cnt (fun i => c.getD i 0 == v) n : Nat) : Int)
theorem cv_succ (c : List Int) (v : Int) (n : Nat) : cv c v (n + 1) = cv c v n + if c.getD n 0 = v then 1 else 0 := by
  unfold cv
  rw [Fl.cnt_succ]
  by_cases h : c.getD n 0 = v
  · rw [if_pos h, beq_iff_eq.2 h]; rfl
  · rw [if_neg h, beq_eq_false_iff_ne.2 h]; rfl
theorem cv_le (c : List Int) (v : Int) (n : Nat) : 0 ≤ cv c v n ∧ cv c v n ≤ n := by
  have := cnt_le' (fun i => c.getD i 0 == v) n
  unfold cv
  omega
/-- One cell more is counted. -/
theorem bump (c : List Int) (n : Nat) (hn : n < 384) (hv : 0 ≤ c.getD n 0 ∧ c.getD n 0 ≤ 5) :
    ((if (c.getD n 0).toNat = 0 / 1 then IntKind.wrap .i64 ([cv c 0 n, cv c 1 n, cv c 2 n, cv c 3 n, cv c 4 n, cv c 5 n].getD (c.getD n 0).toNat 0 + 1) else cv c 0 n) = cv c 0 (n + 1)) ∧
    ((if (c.getD n 0).toNat = (0 + 1) / 1 then IntKind.wrap .i64 ([cv c 0 n, cv c 1 n, cv c 2 n, cv c 3 n, cv c 4 n, cv c 5 n].getD (c.getD n 0).toNat 0 + 1) else cv c 1 n) = cv c 1 (n + 1)) ∧
    ((if (c.getD n 0).toNat = (0 + 1 + 1) / 1 then IntKind.wrap .i64 ([cv c 0 n, cv c 1 n, cv c 2 n, cv c 3 n, cv c 4 n, cv c 5 n].getD (c.getD n 0).toNat 0 + 1) else cv c 2 n) = cv c 2 (n + 1)) ∧
    ((if (c.getD n 0).toNat = (0 + 1 + 1 + 1) / 1 then IntKind.wrap .i64 ([cv c 0 n, cv c 1 n, cv c 2 n, cv c 3 n, cv c 4 n, cv c 5 n].getD (c.getD n 0).toNat 0 + 1) else cv c 3 n) = cv c 3 (n + 1)) ∧
    ((if (c.getD n 0).toNat = (0 + 1 + 1 + 1 + 1) / 1 then IntKind.wrap .i64 ([cv c 0 n, cv c 1 n, cv c 2 n, cv c 3 n, cv c 4 n, cv c 5 n].getD (c.getD n 0).toNat 0 + 1) else cv c 4 n) = cv c 4 (n + 1)) ∧
    ((if (c.getD n 0).toNat = (0 + 1 + 1 + 1 + 1 + 1) / 1 then IntKind.wrap .i64 ([cv c 0 n, cv c 1 n, cv c 2 n, cv c 3 n, cv c 4 n, cv c 5 n].getD (c.getD n 0).toNat 0 + 1) else cv c 5 n) = cv c 5 (n + 1)) := by
  have b0 := cv_le c 0 n
  have b1 := cv_le c 1 n
  have b2 := cv_le c 2 n
  have b3 := cv_le c 3 n
  have b4 := cv_le c 4 n
  have b5 := cv_le c 5 n
  have s0 := cv_succ c 0 n
  have s1 := cv_succ c 1 n
  have s2 := cv_succ c 2 n
  have s3 := cv_succ c 3 n
  have s4 := cv_succ c 4 n
  have s5 := cv_succ c 5 n
  rw [s0, s1, s2, s3, s4, s5]
  generalize cv c 0 n = x0 at *
  generalize cv c 1 n = x1 at *
  generalize cv c 2 n = x2 at *
  generalize cv c 3 n = x3 at *
  generalize cv c 4 n = x4 at *
  generalize cv c 5 n = x5 at *
  clear s0 s1 s2 s3 s4 s5
  generalize c.getD n 0 = v at *
  have key : v = 0 ∨ v = 1 ∨ v = 2 ∨ v = 3 ∨ v = 4 ∨ v = 5 := by omega
  have w0 := wr (x := x0 + 1) (by omega)
  have w1 := wr (x := x1 + 1) (by omega)
  have w2 := wr (x := x2 + 1) (by omega)
  have w3 := wr (x := x3 + 1) (by omega)
  have w4 := wr (x := x4 + 1) (by omega)
  have w5 := wr (x := x5 + 1) (by omega)
  rcases key with rfl | rfl | rfl | rfl | rfl | rfl <;> simp [w0, w1, w2, w3, w4, w5]
theorem GenReaches (a0 : Int) (w0 : (Lit.int .i64 a0).wf = true) (a1 : Int) (w1 : (Lit.int .i64 a1).wf = true) : f4 a0 a1 = some (true, ()) := by
  have b1 := within_b a1 3 (by decide)
  unfold f4
  rw [Fl.known_eq]
  simp only [Option.bind_some, Bool.not_true, cond_false]
  rw [Fl.within_eq _ _ (by decide) (by decide)]
  simp only [Option.bind_some]
  rw [wr (by omega), make_eq a0 _ (by omega) (by omega)]
  simp only [Option.bind_some, bne_self_eq_false, cond_false]
  generalize hfl : 1 + within a1 3 = fl at *
  have f1 : 1 ≤ fl := by omega
  have f2 : fl ≤ 10000 := by omega
  have hl := cells_len a0 fl
  have e1 : (floor a0 fl).1 = cells a0 fl := rfl
  rw [e1]
  have q : (((cells a0 fl).length : Int) != 384) = false := by rw [hl]; rfl
  rw [q, cond_false, find_r _ (cells_cb a0 fl) hl, find_up]
  simp only [Option.bind_some]
  rw [(fld_is (cells a0 fl) (cells_cb a0 fl) (upc a0 fl)).1, fld_cells]
  simp only [Option.bind_some]
  have hdl := (dist_is a0 fl).len
  have hin := cells_inn a0 fl
  have hval := cells_val a0 fl
  have hfd := find_r _ (cells_cb a0 fl) hl 4
  rw [find_down] at hfd
  have hfar := far_gc a0 fl
  have hfard := far_dist a0 fl
  have hwalk : ∀ i : Nat, i < 384 → (walkable ((cells a0 fl).getD i 0)) = decide ((dist a0 fl).getD i 0 ≥ 0) := fun i hi => by
    have g : GC (i : Int) := ⟨by omega, by omega⟩
    have a := (reach a0 fl f1 f2).2 i g
    have b := dist_wk a0 fl i g
    have c' := cells_wk a0 fl i
    have e : Field.rd (dist a0 fl) (i : Int) = (dist a0 fl).getD i 0 := rfl
    have e' : Wk (cells a0 fl) i ↔ walkable ((cells a0 fl).getD i 0) = true := Iff.rfl
    rw [e] at a b
    by_cases z : (dist a0 fl).getD i 0 ≥ 0
    · rw [decide_eq_true z]
      exact e'.1 (c'.2 (b z))
    · rw [decide_eq_false z]
      cases hw : walkable ((cells a0 fl).getD i 0) with
      | false => rfl
      | true => exact absurd (a (c'.1 (e'.2 hw))) z
  have n3 : cv (cells a0 fl) 3 384 = 1 := by
    have g := upc_gc a0 fl
    unfold GC at g
    have h1 := cnt_le (p := fun i => (cells a0 fl).getD i 0 == 3) (n := 384) [(upc a0 fl).toNat] fun j hj h => by
      have := (cells_up a0 fl j).1 (beq_iff_eq.1 h)
      simp [this]
    have h2 := cnt_ge (p := fun i => (cells a0 fl).getD i 0 == 3) (n := 384) [(upc a0 fl).toNat] (by simp) fun j hj => by
      have : j = (upc a0 fl).toNat := by simpa using hj
      exact ⟨by omega, beq_iff_eq.2 ((cells_up a0 fl j).2 this)⟩
    unfold cv
    simp only [List.length_cons, List.length_nil] at h1 h2
    omega
  have n4 : cv (cells a0 fl) 4 384 = 1 := by
    have g := far_gc a0 fl
    unfold GC at g
    have h1 := cnt_le (p := fun i => (cells a0 fl).getD i 0 == 4) (n := 384) [(far a0 fl).toNat] fun j hj h => by
      have := (cells_down a0 fl j).1 (beq_iff_eq.1 h)
      simp [this]
    have h2 := cnt_ge (p := fun i => (cells a0 fl).getD i 0 == 4) (n := 384) [(far a0 fl).toNat] (by simp) fun j hj => by
      have : j = (far a0 fl).toNat := by simpa using hj
      exact ⟨by omega, beq_iff_eq.2 ((cells_down a0 fl j).2 this)⟩
    unfold cv
    simp only [List.length_cons, List.length_nil] at h1 h2
    omega
  have n5 : cv (cells a0 fl) 5 384 ≤ 1 := by
    have h1 := cnt_le (p := fun i => (cells a0 fl).getD i 0 == 5) (n := 384) [(shopAt a0 fl).getD 0] fun j hj h => by
      have := (cells_shop a0 fl j).1 (beq_iff_eq.1 h)
      rw [this]
      simp
    unfold cv
    simp only [List.length_cons, List.length_nil] at h1
    omega
  have n2 : cv (cells a0 fl) 2 384 ≤ 5 := by
    obtain ⟨D, hD, hm⟩ := cells_door a0 fl
    have h1 := cnt_le (p := fun i => (cells a0 fl).getD i 0 == 2) (n := 384) D fun j hj h => hm j (beq_iff_eq.1 h)
    unfold cv
    omega
  generalize (floor a0 fl).2.1 = es
  generalize (floor a0 fl).2.2.1 = l
  generalize cells a0 fl = c at *
  generalize dist a0 fl = f at *
  generalize far a0 fl = fr at *
  refine OK.eq ?_
  unfold f4.L1
  refine OK.loop (fun i : Nat => ((i : Int), f, cv c 0 i, cv c 1 i, cv c 2 i, cv c 3 i, cv c 4 i, cv c 5 i, c, es, l, ())) (fun i => i ≤ 384) (fun i => 384 - i) (fun rec i hi ih => ?_) 0 rfl (Nat.zero_le _) (by decide)
  dsimp only
  rw [bif_dec]
  by_cases q : i < 384
  · have hv := hval i
    have hi' := hin i
    unfold Inn at hi'
    obtain ⟨u0, u1, u2, u3, u4, u5⟩ := bump c i q hv
    have e4 : Int.tmod (i : Int) 24 = (i : Int) % 24 := Int.tmod_eq_emod_of_nonneg (by omega)
    have e5 : Int.tdiv (i : Int) 24 = (i : Int) / 24 := Int.tdiv_eq_ediv_of_nonneg (by omega)
    have go := ih (i + 1) (by omega) (by omega) _ rfl
    have ewalk : f20 (c.getD i 0) = some (walkable (c.getD i 0), ()) := rwalk_eq _
    rw [if_pos (by omega), inR (i := (i : Int)) (n := c.length) (by omega), inR (i := (i : Int)) (n := f.length) (by omega)]
    simp only [cond_true, Int.toNat_natCast]
    rw [bif_dec, if_neg (by omega), wr (x := c.getD i 0) (by omega), ewalk]
    simp only [Option.bind_some]
    have hw := hwalk i q
    rw [hw]
    have eb : (!decide (f.getD i 0 ≥ 0) == decide (f.getD i 0 ≥ 0)) = false := by cases decide (f.getD i 0 ≥ 0) <;> rfl
    rw [eb, cond_false, inR (i := c.getD i 0) (n := 6) (by omega), cond_true, cond_true, u0, u1, u2, u3, u4, u5, wr (x := (i : Int) + 1) (by omega), e4, e5, wr (x := (i : Int) / 24) (by omega)]
    have z : ∀ {b : Bool}, (b = true → c.getD i 0 = 0) → b = true → (c.getD i 0 != 0) = false := fun h hb => by rw [h hb]; rfl
    refine OK.bif (fun h => ?_) (fun _ => ?_)
    · have := beq_iff_eq.1 h
      have e0 : c.getD i 0 = 0 := Decidable.byContradiction fun n => by have := hi' n; omega
      have e0' : (c.getD i 0 != 0) = false := by rw [e0]; rfl
      rw [e0', cond_false]
      exact go
    refine OK.bif (fun h => ?_) (fun _ => ?_)
    · have := beq_iff_eq.1 h
      have e0 : c.getD i 0 = 0 := Decidable.byContradiction fun n => by have := hi' n; omega
      have e0' : (c.getD i 0 != 0) = false := by rw [e0]; rfl
      rw [e0', cond_false]
      exact go
    refine OK.bif (fun h => ?_) (fun _ => ?_)
    · have := beq_iff_eq.1 h
      have e0 : c.getD i 0 = 0 := Decidable.byContradiction fun n => by have := hi' n; omega
      have e0' : (c.getD i 0 != 0) = false := by rw [e0]; rfl
      rw [e0', cond_false]
      exact go
    refine OK.bif (fun h => ?_) (fun _ => ?_)
    · have := beq_iff_eq.1 h
      have e0 : c.getD i 0 = 0 := Decidable.byContradiction fun n => by have := hi' n; omega
      have e0' : (c.getD i 0 != 0) = false := by rw [e0]; rfl
      rw [e0', cond_false]
      exact go
    · exact go
  · have : i = 384 := by omega
    subst this
    unfold GC at hfar
    have hfard' : 1 ≤ f.getD fr.toNat 0 := hfard
    rw [if_neg (by omega), n3, n4, beq_self_eq_true, cond_true, cond_true, decide_eq_true n5, cond_true, decide_eq_true n2, cond_true, hfd]
    simp only [Option.bind_some]
    rw [inR (by omega), cond_true, decide_eq_true (by omega)]
    exact OK.ret rfl
end Go.Proofs.Ytbekimnigknapaa.Pure

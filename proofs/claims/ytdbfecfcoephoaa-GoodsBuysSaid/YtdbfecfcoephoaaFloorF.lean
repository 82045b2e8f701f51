/- The document's floor: what is found on it, what is reached (own work). -/
import Derived.Test.YtdbfecfcoephoaaFloorR
namespace Go.Proofs.Ytdbfecfcoephoaa.Fl
open Go Go.Proofs.Ytdbfecfcoephoaa.Mx Go.Proofs.Ytdbfecfcoephoaa.Pc Go.Proofs.Ytdbfecfcoephoaa.Run Go.Proofs.Ytdbfecfcoephoaa.Field Go.Proofs.Ytdbfecfcoephoaa.Gen Go.Proofs.Ytdbfecfcoephoaa.GenL
set_option linter.unusedVariables false
set_option linter.unusedSimpArgs false
/-- The first cell of a kind; -1: none. -/
def findC (c : List Int) (v : Int) : Int := match (List.range 384).find? fun i : Nat => c.getD i 0 == v with | some i => (i : Int) | none => -1
theorem find_r (c : List Int) (hc : CB c) (hl : c.length = 384) (v : Int) : f17 c v = some (findC c v, ()) := by
  unfold f17 f17.L1 findC
  refine (it_find (x := (c, v, 0, ())) (fun i : Nat => c.getD i 0 == v) 384 (fun i : Nat => (c, v, (i : Int), ())) (fun i => some ((i : Int), ())) (some (-1, ())) (fun rec i hi => ?_) (by decide) rfl).trans ?_
  rotate_left
  · cases (List.range 384).find? fun i : Nat => c.getD i 0 == v <;> rfl
  · dsimp only
    rw [bif_dec, bif_dec]
    by_cases q : i < 384
    · have b := hc i
      rw [if_pos q, if_pos (by omega), if_pos (by omega), inR (by omega), cond_true, wr (x := (i : Int) + 1) (by omega), Int.toNat_natCast, wr (by omega), ite_bif]
      rfl
    · rw [if_neg q, if_neg (by omega)]
/-- Every cell of the floor is reached. -/
theorem reach (s fl : Int) (h1 : 1 ≤ fl) (h2 : fl ≤ 10000) : (∀ n, GC n → Wk (cells s fl) n → Link (cells s fl) (upc s fl) n) ∧ ∀ n, GC n → Wk (cellsU s fl) n → 0 ≤ Field.rd (dist s fl) n := by
  obtain ⟨z, e, u, hu, hG⟩ := make_wk s fl (by omega) h2
  rw [rmake_eq s fl h1 h2] at e
  cases e
  have all : ∀ n, GC n → Wk (cells s fl) n → Link (cells s fl) (upc s fl) n := fun n hn hw =>
    (hG.all _ (upc_gc s fl) ((cells_wk s fl _).2 (up_wk s fl))).symm.trans (hG.all n hn hw)
  refine ⟨all, fun n hn hw => ?_⟩
  exact link_field (dist_is s fl) ((all n hn ((cells_wk s fl n).2 hw)).mono fun m _ h => (cells_wk s fl m).1 h)
theorem find_shop (s fl : Int) : findC (cells s fl) 5 = match shopAt s fl with | some i => (i : Int) | none => -1 := by
  unfold findC
  cases h : shopAt s fl with
  | some i =>
    have : (List.range 384).find? (fun j : Nat => (cells s fl).getD j 0 == 5) = some i := List.find?_range_eq_some.2 ⟨beq_iff_eq.2 ((cells_shop s fl i).2 h), List.mem_range.2 (shop_is s fl h).1, fun j hj => by
      have : ((cells s fl).getD j 0 == 5) = false := by
        rw [beq_eq_false_iff_ne]
        intro e
        have := (cells_shop s fl j).1 e
        rw [h] at this
        cases this
        omega
      rw [this]; rfl⟩
    rw [this]
  | none =>
    have : (List.range 384).find? (fun j : Nat => (cells s fl).getD j 0 == 5) = none := List.find?_range_eq_none.2 fun j hj => by
      have : ((cells s fl).getD j 0 == 5) = false := by
        rw [beq_eq_false_iff_ne]
        intro e
        have := (cells_shop s fl j).1 e
        rw [h] at this
        cases this
      rw [this]; rfl
    rw [this]
theorem findC_one {c : List Int} {v : Int} {k : Nat} (hk : k < 384) (h : ∀ n : Nat, c.getD n 0 = v ↔ n = k) : findC c v = k := by
  unfold findC
  have : (List.range 384).find? (fun j : Nat => c.getD j 0 == v) = some k := List.find?_range_eq_some.2 ⟨beq_iff_eq.2 ((h k).2 rfl), List.mem_range.2 hk, fun j hj => by
    have : (c.getD j 0 == v) = false := by
      rw [beq_eq_false_iff_ne]
      intro e
      have := (h j).1 e
      omega
    rw [this]; rfl⟩
  rw [this]
theorem find_up (s fl : Int) : findC (cells s fl) 3 = upc s fl := by
  have g := upc_gc s fl
  unfold GC at g
  rw [findC_one (k := (upc s fl).toNat) (by omega) (cells_up s fl)]
  omega
theorem find_down (s fl : Int) : findC (cells s fl) 4 = far s fl := by
  have g := far_gc s fl
  unfold GC at g
  rw [findC_one (k := (far s fl).toNat) (by omega) (cells_down s fl)]
  omega
/-- The field of the whole floor is the one that it was made by. -/
theorem fld_cells (s fl : Int) : fld (cells s fl) (upc s fl) = dist s fl := by
  have h := (fld_is (cells s fl) (cells_cb s fl) (upc s fl)).2
  have e1 : opnC (cells s fl) [] = opnC (cellsU s fl) [] := funext fun n => propext (by
    have := cells_wk s fl n
    unfold Wk at this
    unfold opnC
    rw [this])
  have e2 : IsT (cells s fl) [upc s fl] = IsT (cellsU s fl) [upc s fl] := funext fun n => propext (by
    have := cells_wk s fl n
    unfold Wk at this
    unfold IsT
    rw [this])
  rw [e1, e2] at h
  exact field_one h (dist_is s fl)
end Go.Proofs.Ytdbfecfcoephoaa.Fl

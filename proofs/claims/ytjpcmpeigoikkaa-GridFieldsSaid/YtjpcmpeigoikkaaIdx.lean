/- Laws of arrays of four whole numbers: an element by its index. No condition but that the index lies within. -/
import Derived.WalkKit
import Derived.RowKit
import Derived.Test.YtjpcmpeigoikkaaWWords
namespace Go.Proofs.Ytjpcmpeigoikkaa.Q
open Go.RowKit Go.Proofs.YtjpcmpeigoikkaaW.PrintWords
theorem part_scalar {P : Program} {W : World} {t : TypeId} {u : TypeDesc} (hu : P.underlying t = some u) (hs : (match u with | .struct _ | .array _ _ => true | _ => false) = false) (cs : Array Value) (i : Nat) (v : Value) (hv : cs[i]? = some v) : (part t cs i).run P W = .ok v W := by
  have h1 : (isAgg t).run P W = .ok false W := by
    unfold isAgg
    simp [run_underlying hu]
    cases u <;> simp_all
  unfold part
  simp [h1, hv]
theorem index_elem {P : Program} {W : World} {t e : TypeId} {u : TypeDesc} {n : Nat} {k' : IntKind} (ht : P.underlying t = some (.array n e)) (hu : P.underlying e = some u) (hs : (match u with | .struct _ | .array _ _ => true | _ => false) = false) (hz : (sizeOf e).run P W = .ok 1 W)
    (cs : Array Value) (j : Int) (h0 : 0 ≤ j) (h1 : j < n) (v : Value) (hv : cs[j.toNat]? = some v) : (Instr.index t (.agg cs) (.int k' j)).run P W = .ok v W := by
  unfold Instr.index
  simp [asIntOf, run_underlying ht, h0, h1, hz, part_scalar hu hs cs _ v hv]
theorem index_four {P : Program} {t e : TypeId} {u : TypeDesc} (ht : P.underlying t = some (.array 4 e)) (hu : P.underlying e = some u) (hs : (match u with | .struct _ | .array _ _ => true | _ => false) = false) (hz : ∀ W, (sizeOf e).run P W = .ok 1 W) (k k' : IntKind)
    (a b c d : Int) (j : Int) (h0 : 0 ≤ j) (h1 : j < 4) (W : World) : (Instr.index t (.agg #[.int k a, .int k b, .int k c, .int k d]) (.int k' j)).run P W = .ok (.int k (rd [a, b, c, d] j)) W := by
  refine index_elem ht hu hs (hz W) _ j h0 h1 _ ?_
  rcases (by omega : j = 0 ∨ j = 1 ∨ j = 2 ∨ j = 3) with rfl | rfl | rfl | rfl <;> rfl
end Go.Proofs.Ytjpcmpeigoikkaa.Q

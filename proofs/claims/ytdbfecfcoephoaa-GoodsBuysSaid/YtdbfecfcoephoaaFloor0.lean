/- A floor in plain words: rooms, halls, stairs, a shop, monsters, items (own work). -/
import Derived.Test.YtdbfecfcoephoaaMakeM
namespace Go.Proofs.Ytdbfecfcoephoaa.Fl
open Go Go.Proofs.Ytdbfecfcoephoaa.Mx Go.Proofs.Ytdbfecfcoephoaa.Pc Go.Proofs.Ytdbfecfcoephoaa.Run Go.Proofs.Ytdbfecfcoephoaa.Field Go.Proofs.Ytdbfecfcoephoaa.Gen Go.Proofs.Ytdbfecfcoephoaa.GenL
set_option linter.unusedVariables false
set_option linter.unusedSimpArgs false
noncomputable section
abbrev ItT := Int × Int × Int × Int
/-- A number by chance of a floor. -/
def dv (s fl a b n : Int) : Int := ((f39 s fl a b n).getD (0, ())).1
theorem d_is (s fl a b n : Int) (h1 : 1 ≤ n) (h2 : n ≤ 1000000000) : f39 s fl a b n = some (dv s fl a b n, ()) ∧ 0 ≤ dv s fl a b n ∧ dv s fl a b n < n := by
  obtain ⟨y, e, h⟩ := d_ok s fl a b n h1 h2
  unfold dv
  rw [e]
  exact ⟨rfl, h⟩
section
variable (s fl : Int)
def rw' (i : Int) : Int := 3 + dv s fl i 0 5
def rh' (i : Int) : Int := 2 + dv s fl i 1 4
def rx' (i : Int) : Int := 1 + dv s fl i 2 (23 - rw' s fl i)
def ry' (i : Int) : Int := 1 + dv s fl i 3 (15 - rh' s fl i)
/-- The middle of a room. -/
def mx (i : Int) : Int := rx' s fl i + rw' s fl i / 2
def my (i : Int) : Int := ry' s fl i + rh' s fl i / 2
theorem room_b (i : Int) : 3 ≤ rw' s fl i ∧ rw' s fl i ≤ 7 ∧ 2 ≤ rh' s fl i ∧ rh' s fl i ≤ 5 ∧ 1 ≤ rx' s fl i ∧ rx' s fl i + rw' s fl i ≤ 23 ∧ 1 ≤ ry' s fl i ∧ ry' s fl i + rh' s fl i ≤ 15 := by
  have h0 := (d_is s fl i 0 5 (by decide) (by decide)).2
  have h1 := (d_is s fl i 1 4 (by decide) (by decide)).2
  have e0 : rw' s fl i = 3 + dv s fl i 0 5 := rfl
  have e1 : rh' s fl i = 2 + dv s fl i 1 4 := rfl
  have h2 := (d_is s fl i 2 (23 - rw' s fl i) (by omega) (by omega)).2
  have h3 := (d_is s fl i 3 (15 - rh' s fl i) (by omega) (by omega)).2
  have e2 : rx' s fl i = 1 + dv s fl i 2 (23 - rw' s fl i) := rfl
  have e3 : ry' s fl i = 1 + dv s fl i 3 (15 - rh' s fl i) := rfl
  omega
theorem mid_b (i : Int) : 1 ≤ mx s fl i ∧ mx s fl i ≤ 22 ∧ 1 ≤ my s fl i ∧ my s fl i ≤ 14 := by
  have h := room_b s fl i
  unfold mx my
  omega
end
/-- A rectangle of a grid is made floor. -/
def inRect (x y w h n : Int) : Bool := decide (x ≤ n % 24 ∧ n % 24 < x + w ∧ y ≤ n / 24 ∧ n / 24 < y + h)
def carve (c : List Int) (x y w h : Int) : List Int := (List.range 384).map fun n : Nat => if inRect x y w h n then 1 else c.getD n 0
theorem carve_len (c : List Int) (x y w h : Int) : (carve c x y w h).length = 384 := by simp [carve]
theorem carve_get (c : List Int) (x y w h : Int) (n : Nat) (hn : n < 384) : (carve c x y w h).getD n 0 = if inRect x y w h n then 1 else c.getD n 0 := by
  unfold carve
  rw [List.getD_eq_getElem?_getD, List.getElem?_map, List.getElem?_range hn]
  rfl
theorem list_ext {c d : List Int} (h1 : c.length = 384) (h2 : d.length = 384) (h : ∀ n, n < 384 → c.getD n 0 = d.getD n 0) : c = d := by
  apply List.ext_getElem (by omega)
  intro i a b
  have := h i (by omega)
  rw [List.getD_eq_getElem?_getD, List.getD_eq_getElem?_getD, List.getElem?_eq_getElem a, List.getElem?_eq_getElem b] at this
  exact this
/-- One cell of a hall: it is dug, and the first one is a door. -/
def dg (x y : Int) (d : Bool) (c : List Int) : Bool × List Int := if c.getD (y * 24 + x).toNat 0 ≠ 0 then (d, c) else (true, c.set (y * 24 + x).toNat (if d then 1 else 2))
def tow (a b : Int) : Int := if a < b then a + 1 else a - 1
/-- One step of a hall. -/
def stp (x y X Y : Int) (first : Bool) : Int × Int := if (first = true ∧ x ≠ X) ∨ (first = false ∧ y = Y) then (tow x X, y) else (x, tow y Y)
def hall : Nat → Int → Int → Int → Int → Bool → Bool → List Int → List Int
  | 0, x, y, X, Y, first, d, c => c
  | n + 1, x, y, X, Y, first, d, c => if x = X ∧ y = Y then c else hall n (stp x y X Y first).1 (stp x y X Y first).2 X Y first (dg (stp x y X Y first).1 (stp x y X Y first).2 d c).1 (dg (stp x y X Y first).1 (stp x y X Y first).2 d c).2
def gap (x y X Y : Int) : Nat := (x - X).natAbs + (y - Y).natAbs
theorem stp_gap {x y X Y : Int} (first : Bool) (h : ¬ (x = X ∧ y = Y)) : gap (stp x y X Y first).1 (stp x y X Y first).2 X Y + 1 = gap x y X Y := by
  unfold stp tow gap
  cases first <;> simp only [Bool.false_eq_true, false_and, true_and, false_or, or_false, if_false] <;> (repeat' split) <;> simp only <;> omega
theorem stp_in {x y X Y : Int} (first : Bool) (h : ¬ (x = X ∧ y = Y)) {x0 x1 y0 y1 : Int} (hx : x0 ≤ x ∧ x ≤ x1) (hX : x0 ≤ X ∧ X ≤ x1) (hy : y0 ≤ y ∧ y ≤ y1) (hY : y0 ≤ Y ∧ Y ≤ y1) :
    (x0 ≤ (stp x y X Y first).1 ∧ (stp x y X Y first).1 ≤ x1) ∧ (y0 ≤ (stp x y X Y first).2 ∧ (stp x y X Y first).2 ≤ y1) := by
  unfold stp tow
  cases first <;> simp only [Bool.false_eq_true, false_and, true_and, false_or, or_false, if_false] <;> (repeat' split) <;> simp only <;> omega
section
variable (s fl : Int)
/-- The hall from the room ahead to a room. -/
def hallTo (i : Int) (c : List Int) : List Int :=
  hall (gap (mx s fl (i - 1)) (my s fl (i - 1)) (mx s fl i) (my s fl i)) (mx s fl (i - 1)) (my s fl (i - 1)) (mx s fl i) (my s fl i) (dv s fl i 4 2 == 0) (dg (mx s fl (i - 1)) (my s fl (i - 1)) false c).1 (dg (mx s fl (i - 1)) (my s fl (i - 1)) false c).2
def roomOf (i : Int) (c : List Int) : List Int := carve c (rx' s fl i) (ry' s fl i) (rw' s fl i) (rh' s fl i)
def rooms : List Int := (List.range 6).foldl (fun c (i : Nat) => roomOf s fl i c) (List.replicate 384 0)
def halls (n : Nat) : List Int := (List.range n).foldl (fun c (i : Nat) => hallTo s fl ((i : Int) + 1) c) (rooms s fl)
def upc : Int := my s fl 0 * 24 + mx s fl 0
def cellsU : List Int := (halls s fl 5).set (upc s fl).toNat 3
/-- How far each cell is from the up stair. -/
def fld (c : List Int) (u : Int) : List Int := ((f42 c [] [u]).getD ([], ())).1
theorem fld_is (c : List Int) (hc : CB c) (u : Int) : f42 c [] [u] = some (fld c u, ()) ∧ IsField (opnC c []) (IsT c [u]) (fld c u) := by
  obtain ⟨y, e, h⟩ := rfield_is c hc [] [u] (by simp)
  unfold fld
  rw [e]
  exact ⟨rfl, h⟩
def dist : List Int := fld (cellsU s fl) (upc s fl)
/-- The farthest of the first n cells. -/
def farOf (f : List Int) (u : Int) (n : Nat) : Int := (List.range n).foldl (fun far (i : Nat) => if Field.rd f i > Field.rd f far then i else far) u
def far : Int := farOf (dist s fl) (upc s fl) 384
def cellsD : List Int := (cellsU s fl).set (far s fl).toNat 4
/-- Where the shop is. -/
def shopAt : Option Nat := if dv s fl 6 0 2 = 0 then (List.range 384).find? fun i : Nat => (cellsD s fl).getD i 0 == 1 && (dist s fl).getD i 0 == Field.rd (dist s fl) (far s fl) / 2 else none
def cells : List Int := match shopAt s fl with | some i => (cellsD s fl).set i 5 | none => cellsD s fl
/-- The cells of the floor that are so far away and not taken. -/
def frees (c f : List Int) (far : Int) (taken : List Int) : List Int := ((List.range 384).filter fun i : Nat => c.getD i 0 == 1 && decide (far ≤ f.getD i 0) && !taken.contains (i : Int)).map fun i : Nat => (i : Int)
def entAt (k : Int) (at' : Int) : EntT := match 2 + dv s fl (16 + k) 1 (min (fl + 1) 3) with
  | 2 => (2, 0, 0, at' % 24, at' / 24, 4, 4, 2, 0, 0, 0)
  | 3 => (3, 0, 0, at' % 24, at' / 24, 9, 9, 4, 1, 0, 0)
  | _ => (4, 0, 0, at' % 24, at' / 24, 6, 6, 3, 0, 0, 0)
def mons (c f : List Int) : Nat → Int → List Int → List EntT → List EntT
  | 0, _, _, es => es
  | n + 1, k, taken, es => if frees c f 4 taken = [] then es else mons c f n (k + 1) (taken ++ [(frees c f 4 taken).getD (dv s fl (7 + k) 0 (frees c f 4 taken).length).toNat 0]) (es ++ [entAt s fl k ((frees c f 4 taken).getD (dv s fl (7 + k) 0 (frees c f 4 taken).length).toNat 0)])
def its (c f : List Int) : Nat → Int → List Int → List ItT → List ItT
  | 0, _, _, l => l
  | n + 1, k, taken, l => if frees c f 0 taken = [] then its c f n (k + 1) taken l else its c f n (k + 1) (taken ++ [(frees c f 0 taken).getD (dv s fl (40 + k) 0 (frees c f 0 taken).length).toNat 0])
      (l ++ [(1 + dv s fl (40 + k) 1 4, 1, (frees c f 0 taken).getD (dv s fl (40 + k) 0 (frees c f 0 taken).length).toNat 0 % 24, (frees c f 0 taken).getD (dv s fl (40 + k) 0 (frees c f 0 taken).length).toNat 0 / 24)])
def ware (k : Int) : ItT := (1 + dv s fl (50 + k) 1 3, 4, k, 0)
def wares : List ItT := if (shopAt s fl).isSome then [ware s fl 0, ware s fl 1, ware s fl 2] else []
/-- A floor. -/
def floor : Res := (cells s fl, mons s fl (cells s fl) (dist s fl) (fl + 2).toNat 0 [] [], its s fl (cells s fl) (dist s fl) 4 0 [] [] ++ wares s fl, ())
end
end
end Go.Proofs.Ytdbfecfcoephoaa.Fl

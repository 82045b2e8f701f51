/- The function goods.Check: a loop over rows that asks and fills a map (own work). -/
import Derived.Test.YtdbfecfcoephoaaMxZ
namespace Go.Proofs.Ytdbfecfcoephoaa.Mx
open Go
set_option autoImplicit false
set_option linter.unusedVariables false
set_option linter.unusedSimpArgs false
set_option maxRecDepth 4000
variable {P : Program}
def entT : Ty := .prod (.int .i64) (.prod (.int .i64) (.prod (.int .i64) (.prod (.int .i64) (.prod (.int .i64) (.prod (.int .i64) (.prod (.int .i64) (.prod (.int .i64) (.prod (.int .i64) (.prod (.int .i64) (.int .i64))))))))))
def chkIns : Shape := ⟨[(0, .agg [.int .i64, .int .i64, .int .i64, .int .i64, .row (.int .u8), .row entT, .row it4T, .int .i64, .int .i64, .int .i64, .int .i64])], []⟩
def chkOuts : List Shape := [⟨[(0, .c .bool)], []⟩]
abbrev Ent11 := Int × Int × Int × Int × Int × Int × Int × Int × Int × Int × Int
abbrev Wd11 := Int × Int × Int × Int × List Int × List Ent11 × List It4 × Int × Int × Int × Int × Unit
abbrev its (x : Wd11) : List It4 := x.2.2.2.2.2.2.1
abbrev R5 := Int × Int × Int × Int × Unit
def wl (x : Wd11) : List CV := [.int .i64 x.1, .int .i64 x.2.1, .int .i64 x.2.2.1, .int .i64 x.2.2.2.1, .row (.int .u8) x.2.2.2.2.1, .row entT x.2.2.2.2.2.1, .row it4T (its x), .int .i64 x.2.2.2.2.2.2.2.1, .int .i64 x.2.2.2.2.2.2.2.2.1, .int .i64 x.2.2.2.2.2.2.2.2.2.1, .int .i64 x.2.2.2.2.2.2.2.2.2.2.1]
def il (y : It4) : List CV := [.int .i64 y.1, .int .i64 y.2.1, .int .i64 y.2.2.1, .int .i64 y.2.2.2]
def rk (r : R5) : It4 := (r.1, r.2.1, r.2.2.1, r.2.2.2.1)
/-- Whether all are as they may be, each at a place of its own. -/
def chkGo (pl : It4 → Option R5) (my : It4 → Option (Bool × Unit)) : List It4 → List It4 → Option Bool
  | [], _ => some true
  | y :: l, ks => if y = (0, 0, 0, 0) then chkGo pl my l ks else
    match pl y with
    | none => none
    | some r => if rk r ∈ ks then some false else
      match my y with
      | none => none
      | some b => if b.1 = true then chkGo pl my l (ks ++ [rk r]) else some false
def chkF (pl : It4 → Option R5) (my : Wd11 → It4 → Option (Bool × Unit)) (x : Wd11) : Option (Bool × Unit) :=
  if (its x).length = 40 then (chkGo pl (my x) (its x) []).map fun b => (b, ()) else some (false, ())
/-! ### the code's shape -/
def findReg : Code → Nat → Option (Array Oper)
  | .region id ops _, n => Bool.casesOn (Nat.beq id n) none (some ops)
  | .seq a b, n => match findReg a n with
    | some o => some o
    | none => findReg b n
  | .cond _ a b, n => match findReg a n with
    | some o => some o
    | none => findReg b n
  | .block _ a, n => findReg a n
  | .loop a, n => findReg a n
  | _, _ => none
def reg (c : Code) (n : Nat) : Array Oper := match findReg c n with
  | some o => o
  | none => #[]
def bodyIn (c : Code) : Code := .seq (.region 6 (reg c 6) false) (.seq (.seq (.region 7 (reg c 7) false) (.cond (.tmp 23) (.exit 1) .skip)) (.seq (.seq (.region 8 (reg c 8) false) (.seq (.region 9 (reg c 9) false) (.cond (.tmp 37) (.seq (.region 10 (reg c 10) false) .ret) .skip))) (.region 11 (reg c 11) false)))
def loopIn (c : Code) : Code := .seq (.region 5 (reg c 5) false) (.seq (.cond (.tmp 17) .skip (.exit 0)) (.seq (.block 1 (bodyIn c)) (.region 12 (reg c 12) false)))
def chkCode (c : Code) : Code := .seq (.region 0 (reg c 0) false) (.seq (.seq (.region 1 (reg c 1) false) (.cond (.tmp 11) (.seq (.region 2 (reg c 2) false) .ret) .skip))
  (.seq (.region 3 (reg c 3) false) (.seq (.seq (.region 4 (reg c 4) false) (.block 0 (.loop (loopIn c)))) (.seq (.region 13 (reg c 13) false) .ret))))
def IsOp (R : Array Oper) (i : Nat) (d : Option Nat) (op : Op) : Prop := (R[i]?).map (fun o => (o.guard, o.dst, o.op)) = some (none, d, op)
theorem IsOp.get {R : Array Oper} {i : Nat} {d : Option Nat} {op : Op} (h : IsOp R i d op) : ∃ o, R[i]? = some o ∧ o.guard = none ∧ o.dst = d ∧ o.op = op := by
  unfold IsOp at h
  cases ho : R[i]? with
  | none => rw [ho] at h; cases h
  | some o =>
    rw [ho] at h
    simp only [Option.map_some, Option.some.injEq, Prod.mk.injEq] at h
    exact ⟨o, rfl, h.1, h.2.1, h.2.2⟩
/-! ### states -/
abbrev SH := List SV × Heap
def vi (n : Int) : SV := .v (.c (.int .i64 n))
def vb (b : Bool) : SV := .v (.c (.bool b))
def vp (n o : Nat) : SV := .v (.c (.ptr n o))
def vr (l : List It4) : SV := .v (.c (.row it4T l))
def va (l : List CV) : SV := .v (.agg l)
def q0 (x : Wd11) : SH := ((deads 43).set 0 (va (wl x)), [])
def hp0 (x : Wd11) : Heap := [(0, .box (wl x))]
def q1 (x : Wd11) : SH := (((q0 x).1.set 1 (vp 0 0)).set 2 (vb false), hp0 x)
def q2 (x : Wd11) : SH := (((((q1 x).1.set 8 (vp 0 6)).set 9 (vr (its x))).set 10 (vi ((its x).length : Nat))).set 11 (vb (((its x).length : Int) != 40)), hp0 x)
def q3 (x : Wd11) : SH := (((q2 x).1.set 12 .dead).set 3 .dead, hp0 x)
def q4 (x : Wd11) : SH := (((((q3 x).1.set 13 (vp 0 6)).set 14 (vr (its x))).set 15 (vi ((its x).length : Nat))).set 16 (vi 0), hp0 x)
/-- At the head of the loop. -/
def qh (x : Wd11) (i : Int) : SH := ((((((deads 43).set 1 (vp 0 0)).set 2 (vb false)).set 14 (vr (its x))).set 15 (vi ((its x).length : Nat))).set 16 (vi i), hp0 x)
def headJ : Shape := ⟨[(1, .c (.ptr 0 0)), (2, .c .bool), (14, .c (.row it4T)), (15, .c (.int .i64)), (16, .c (.int .i64))], [(0, .box [.int .i64, .int .i64, .int .i64, .int .i64, .row (.int .u8), .row entT, .row it4T, .int .i64, .int .i64, .int .i64, .int .i64])]⟩
def hx (x : Wd11) (i : Int) : headJ.X := (false, its x, ((its x).length : Nat), i, x.1, x.2.1, x.2.2.1, x.2.2.2.1, x.2.2.2.2.1, x.2.2.2.2.2.1, its x, x.2.2.2.2.2.2.2.1, x.2.2.2.2.2.2.2.2.1, x.2.2.2.2.2.2.2.2.2.1, x.2.2.2.2.2.2.2.2.2.2.1, ())
def q5 (x : Wd11) (i : Int) : SH := ((qh x i).1.set 17 (vb (decide (i < ((its x).length : Int)))), hp0 x)
def hp6 (x : Wd11) (y : It4) : Heap := (65, .box (il y)) :: hp0 x
def q6 (x : Wd11) (i : Int) (y : It4) : SH := ((((((q5 x i).1.set 18 (vi i)).set 19 (.v (.c (.rptr it4T (its x) i.toNat 0)))).set 20 (va (il y))).set 5 (vp 65 0)).set 4 (vi i), hp6 x y)
def q7 (x : Wd11) (i : Int) (y : It4) : SH := ((((q6 x i y).1.set 21 (va (il y))).set 22 (va (il (0, 0, 0, 0)))).set 23 (vb (y.1 == 0 && (y.2.1 == 0 && (y.2.2.1 == 0 && (y.2.2.2 == 0 && true))))), hp6 x y)
def q8a (x : Wd11) (i : Int) (y : It4) : SH := ((q7 x i y).1.set 25 .dead, hp6 x y)
def q8b (x : Wd11) (i : Int) (y : It4) (r : R5) : SH := (((q8a x i y).1.set 26 (va (il y))).set 27 (va (il (rk r))), hp6 x y)
def q8c (x : Wd11) (i : Int) (y : It4) (r : R5) (t : Bool) : SH := ((q8b x i y r).1.set 28 (.tup [.c .dead, .c (.bool t)]), hp6 x y)
def q8 (x : Wd11) (i : Int) (y : It4) (r : R5) (t : Bool) : SH := ((((((q8c x i y r t).1.set 24 (.tup [.c .dead, .c (.bool t)])).set 29 .dead).set 30 (vb t)).set 6 .dead).set 7 (vb t), hp6 x y)
def q9t (x : Wd11) (i : Int) (y : It4) (r : R5) : SH := ((((((((q8 x i y r true).1.set 31 (vb true)).set 32 (vb true)).set 33 (.tup [])).set 34 (.tup [])).set 35 (.tup [])).set 36 (.tup [])).set 37 (vb true), hp6 x y)
def q9f (x : Wd11) (i : Int) (y : It4) (r : R5) (b : Bool) : SH := ((((((((q8 x i y r false).1.set 31 (vb false)).set 32 (vb false)).set 33 (va (wl x))).set 34 (va (il y))).set 35 (vb b)).set 36 (vb (!b))).set 37 (vb (!b)), hp6 x y)
def q11a (x : Wd11) (i : Int) (y : It4) (r : R5) (b : Bool) : SH := ((q9f x i y r b).1.set 38 .dead, hp6 x y)
def q11 (x : Wd11) (i : Int) (y : It4) (r : R5) (b : Bool) (r2 : R5) : SH := ((((q11a x i y r b).1.set 39 (va (il y))).set 40 (va (il (rk r2)))).set 41 (vi i), hp6 x y)
def q12 (s : SH) (i : Int) : SH := ((s.1.set 42 (vi (IntKind.wrap .i64 (i + 1)))).set 16 (vi (IntKind.wrap .i64 (i + 1))), s.2)
/-- What the regions of such a function do, as the interpreter tells. -/
structure ChkParts (E : Env) (c : Code) (tM : Nat) (pl : It4 → Option R5) (my : Wd11 → It4 → Option (Bool × Unit)) : Prop where
  s0 : (reg c 0).size = 2
  s1 : (reg c 1).size = 4
  s3 : (reg c 3).size = 2
  s4 : (reg c 4).size = 4
  s5 : (reg c 5).size = 1
  s6 : (reg c 6).size = 6
  s7 : (reg c 7).size = 3
  s8 : (reg c 8).size = 9
  s9 : (reg c 9).size = 7
  s11 : (reg c 11).size = 5
  s12 : (reg c 12).size = 2
  n4 : noDst [3] (reg c 4).toList = true
  n5 : noDst [3] (reg c 5).toList = true
  n6 : noDst [3] (reg c 6).toList = true
  n7 : noDst [3] (reg c 7).toList = true
  n8b : noDst [3, 25] (((reg c 8).toList.drop 1).take 2) = true
  n8 : noDst [3] ((reg c 8).toList.drop 4) = true
  n9 : noDst [3] (reg c 9).toList = true
  n10 : noDst [3] (reg c 10).toList = true
  n11 : noDst [3, 38] (((reg c 11).toList.drop 1).take 3) = true
  n12 : noDst [3] (reg c 12).toList = true
  n13 : noDst [3] (reg c 13).toList = true
  o3a : IsOp (reg c 3) 0 (some 12) (.makeMap tM none)
  o3b : IsOp (reg c 3) 1 (some 3) (.assign (.tmp 12))
  o8a : IsOp (reg c 8) 0 (some 25) (.move (.tmp 3))
  o8d : IsOp (reg c 8) 3 (some 28) (.lookup tM (.tmp 25) (.tmp 27) true)
  o11a : IsOp (reg c 11) 0 (some 38) (.move (.tmp 3))
  o11e : IsOp (reg c 11) 4 none (.mapUpdate tM (.tmp 38) (.tmp 40) (.tmp 41))
  h0 : ∀ x, partRun E (reg c 0) (reg c 0).toList (q0 x) 0 = some (q1 x)
  h1 : ∀ x, partRun E (reg c 1) (reg c 1).toList (q1 x) 32 = some (q2 x)
  h2 : ∀ x, partRun E (reg c 2) (reg c 2).toList (q2 x) 96 = some ((q2 x).1.set 2 (vb false), (q2 x).2)
  h4 : ∀ x, partRun E (reg c 4) (reg c 4).toList (q3 x) 128 = some (q4 x)
  h5 : ∀ x i, partRun E (reg c 5) (reg c 5).toList (qh x i) 1 = some (q5 x i)
  h6 : ∀ x i, partRun E (reg c 6) (reg c 6).toList (q5 x i) 17 = Bool.casesOn (inRange i (its x).length) none (some (q6 x i ((its x).getD i.toNat (0, 0, 0, 0))))
  h7 : ∀ x i y, partRun E (reg c 7) (reg c 7).toList (q6 x i y) 113 = some (q7 x i y)
  h8b : ∀ x i y, partRun E (reg c 8) (((reg c 8).toList.drop 1).take 2) (q8a x i y) 177 = Option.bind (pl y) fun r => some (q8b x i y r)
  h8 : ∀ x i y r t, partRun E (reg c 8) ((reg c 8).toList.drop 4) (q8c x i y r t) 225 = some (q8 x i y r t)
  h9t : ∀ x i y r, partRun E (reg c 9) (reg c 9).toList (q8 x i y r true) 305 = some (q9t x i y r)
  h9f : ∀ x i y r, partRun E (reg c 9) (reg c 9).toList (q8 x i y r false) 305 = Option.bind (my x y) fun b => some (q9f x i y r b.1)
  h10t : ∀ x i y r, partRun E (reg c 10) (reg c 10).toList (q9t x i y r) 417 = some ((q9t x i y r).1.set 2 (vb false), hp6 x y)
  h10f : ∀ x i y r b, partRun E (reg c 10) (reg c 10).toList (q9f x i y r b) 417 = some ((q9f x i y r b).1.set 2 (vb false), hp6 x y)
  h11 : ∀ x i y r b, partRun E (reg c 11) (((reg c 11).toList.drop 1).take 3) (q11a x i y r b) 433 = Option.bind (pl y) fun r2 => some (q11 x i y r b r2)
  h12a : ∀ x i y, partRun E (reg c 12) (reg c 12).toList (q7 x i y) 161 = some (q12 (q7 x i y) i)
  h12b : ∀ x i y r b r2, partRun E (reg c 12) (reg c 12).toList (q11 x i y r b r2) 497 = some (q12 (q11 x i y r b r2) i)
  h13 : ∀ x i, partRun E (reg c 13) (reg c 13).toList (q5 x i) 17 = some ((q5 x i).1.set 2 (vb true), hp0 x)
  d4 : ∀ x, decSt headJ E.m E.keep ⟨(q4 x).1, (q4 x).2, 192⟩ some = some (hx x 0)
  d12a : ∀ x i y, decSt headJ E.m E.keep ⟨(q12 (q7 x i y) i).1, (q12 (q7 x i y) i).2, 193⟩ some = some (hx x (IntKind.wrap .i64 (i + 1)))
  d12b : ∀ x i y r b r2, decSt headJ E.m E.keep ⟨(q12 (q11 x i y r b r2) i).1, (q12 (q11 x i y r b r2) i).2, 529⟩ some = some (hx x (IntKind.wrap .i64 (i + 1)))
theorem hx_laid (x : Wd11) (i : Int) : headJ.encK (hx x i) Prod.mk = ([(1, .c (.ptr 0 0)), (2, .c (.bool false)), (14, .c (.row it4T (its x))), (15, .c (.int .i64 ((its x).length : Nat))), (16, .c (.int .i64 i))], hp0 x) := rfl
theorem agg_il {g : Gh} {hp : HP} {k : It4} {V : Value} (h : SVR g hp (va (il k)) V) : V = keyV k := by
  obtain ⟨vs, rfl, h⟩ := h
  obtain ⟨a, b, c, d⟩ := k
  match vs, h with
  | [v1, v2, v3, v4], ⟨h1, h2, h3, h4, _⟩ =>
    obtain rfl : v1 = _ := h1
    obtain rfl : v2 = _ := h2
    obtain rfl : v3 = _ := h3
    obtain rfl : v4 = _ := h4
    rfl
  | [], h => exact h.elim
  | [_], h => exact h.2.elim
  | [_, _], h => exact h.2.2.elim
  | [_, _, _], h => exact h.2.2.2.elim
  | _ :: _ :: _ :: _ :: _ :: _, h => exact h.2.2.2.2.elim
theorem cut_at {R : Array Oper} {i n : Nat} : ∀ k o, ((R.toList.drop i).take n)[k]? = some o → R[i + k]? = some o := fun k o h => by
  rw [List.getElem?_take] at h
  split at h
  · rw [List.getElem?_drop, Array.getElem?_toList] at h; exact h
  · cases h
theorem drop_at {R : Array Oper} {i : Nat} : ∀ k o, (R.toList.drop i)[k]? = some o → R[i + k]? = some o := fun k o h => by
  rw [List.getElem?_drop, Array.getElem?_toList] at h; exact h
/-! ### what stands beside the map -/
def Mt2 (mt : Nat → Prop) (r : Nat) (b : Nat) : Prop := mt b ∧ b ≠ r
def MG (mt : Nat → Prop) (g : Gh) (w : World) (N r : Nat) (s : SH) (nx : Nat) (a : Act) (w2 : World) (ks : List It4) : Prop :=
  ∃ g1 w1, Ext mt (gK [] g) w g1 w1 ∧ (∀ n, g1.φ n = none) ∧ ¬ g1.ro r ∧ mt r ∧ (∀ b, w1.heap.size ≤ b → mt b) ∧ MapAt w1 r ks ∧ Inv (Mt2 mt r) g1 w1 [] N ⟨s.1, s.2, nx⟩ a w2 ∧ a.tmps.getD 3 undef = .map (some r)
section
variable {mt : Nat → Prop} {g : Gh} {w : World} {N r : Nat} {E : Env} {Q : Exit → Act → World → Prop} {ks : List It4}
theorem mt2_new {w1 : World} (h : ∀ b, w1.heap.size ≤ b → mt b) (hM : MapAt w1 r ks) : ∀ b, w1.heap.size ≤ b → Mt2 mt r b := fun b hb => by
  obtain ⟨es, clock, h1, _⟩ := hM
  have := lt_of_get h1
  exact ⟨h b hb, by omega⟩
theorem MG.region (ok : EnvOk P E) {id nx nx' : Nat} {R : Array Oper} {s s' : SH} {a : Act} {w2 : World} (hr : partRun E R R.toList s nx = some s') (hd : noDst [3] R.toList = true) (hn : nx + keys * R.size = nx') (hG : MG mt g w N r s nx a w2 ks)
    (hK : ∀ a' w', MG mt g w N r s' nx' a' w' ks → Q .normal a' w') : (Code.region id R false).wp P Q a w2 := by
  obtain ⟨g1, w1, e, hφ, hro, hmr, hmt, hM, ⟨g', A⟩, h3⟩ := hG
  subst hn
  exact region_part ok (mt2_new hmt hM) hr hd A fun a' w' g2 A2 k => hK a' w' ⟨g1, w1, e, hφ, hro, hmr, hmt, hM, ⟨g2, A2⟩, (k 3 (by simp)).trans h3⟩
theorem MG.bool {s : SH} {nx : Nat} {a : Act} {w2 : World} (hG : MG mt g w N r s nx a w2 ks) {t : Nat} {b : Bool} (h : getS s.1 t = vb b) : a.eval (.tmp t) = .bool b := by
  obtain ⟨g1, w1, e, hφ, hro, hmr, hmt, hM, ⟨g', A⟩, h3⟩ := hG
  have h1 := rd_SVR A.slr (.tmp t)
  rw [show rd s.1 (.tmp t) = vb b from h] at h1
  exact h1
theorem MG.head (hm : E.m = 0) (hk : E.keep = []) (hN : 43 ≤ N) {s : SH} {nx : Nat} {a : Act} {w2 : World} {x : Wd11} {i : Int} (hd : decSt headJ E.m E.keep ⟨s.1, s.2, nx⟩ some = some (hx x i)) (hG : MG mt g w N r s nx a w2 ks) : MG mt g w N r (qh x i) 1 a w2 ks := by
  obtain ⟨g1, w1, e, hφ, hro, hmr, hmt, hM, hI, h3⟩ := hG
  refine ⟨g1, w1, e, hφ, hro, hmr, hmt, hM, ?_, h3⟩
  obtain ⟨x', as, os, k1, k2, k3⟩ := decSt_spec (E := E) (N := N) (ds := []) (w0 := w1) (mt := Mt2 mt r) (g0 := g1) (fun n _ => hφ n) hd
  simp only [Option.some.injEq] at k1
  subst k1
  have h := k2 Prod.mk
  rw [hx_laid] at h
  simp only [Prod.mk.injEq] at h
  obtain ⟨rfl, rfl⟩ := h
  have h4 := k3 a w2 43 hN hI
  rw [hm] at h4
  exact h4
/-- The memory is told anew from here on, where one block was changed. -/
theorem rebase {mtA : Nat → Prop} {g1 g' : Gh} {w1 w2 w3 : World} {H : HF} {sl : List SV} {nx : Nat} {a : Act} (e0 : Ext mt (gK [] g) w g1 w1) (sub : ∀ b, mtA b → mt b) (A : After mtA g1 w1 H sl nx [] N a w2 g') (hsub : ∀ b, b < w2.heap.size → mtA b → Mt2 mt r b) (hr : ¬ g'.ro r) (hmr : mt r)
    (h1 : w3.os = w2.os) (h2 : w3.tape = w2.tape) (h3 : w3.output = w2.output) (h4 : w2.heap.size ≤ w3.heap.size) (h5 : ∀ b, b ≠ r → b < w2.heap.size → w3.heap[b]? = w2.heap[b]?) :
    Ext mt (gK [] g) w (gK [] g') w3 ∧ After (Mt2 mt r) (gK [] g') w3 H sl nx [] N a w3 g' := by
  have e1 := e0.trans (A.ext.more sub)
  obtain ⟨M, st⟩ := (A.mem.less hsub).touch (r := r) hr (fun h => h.2 rfl) h4 h5
  refine ⟨⟨h1.trans e1.os, h2.trans e1.tape, h3.trans e1.output, Nat.le_trans e1.size h4, fun b hb hk => ?_, e1.ro, e1.ro', fun n Q hQ => ?_⟩, ⟨⟨rfl, rfl, rfl, Nat.le_refl _, fun _ _ _ => rfl, fun _ h => h, fun _ h => .inl h, fun n Q hQ => ?_⟩, M, A.slr.stab st, A.len, A.nx, A.dfs⟩⟩
  · refine (h5 b (fun e => ?_) (Nat.lt_of_lt_of_le hb e1.size)).trans (e1.keep b hb hk)
    subst e
    exact hk.elim (fun h => h hmr) fun h => hr (e1.ro b h)
  · have hQ : (if n ∈ ([] : List Nat) then g.φ n else none) = some Q := hQ
    rw [if_neg (List.not_mem_nil)] at hQ; cases hQ
  · have hQ : (if n ∈ ([] : List Nat) then g'.φ n else none) = some Q := hQ
    rw [if_neg (List.not_mem_nil)] at hQ; cases hQ
theorem gK_none {g : Gh} : ∀ n, (gK [] g).φ n = none := fun n => by
  show (if n ∈ ([] : List Nat) then g.φ n else none) = none
  rw [if_neg (List.not_mem_nil)]
end
end Go.Proofs.Ytdbfecfcoephoaa.Mx

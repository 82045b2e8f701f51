/- The function goods.Check: the walk through its loop (own work). -/
import Derived.Test.YtdbfecfcoephoaaMxZb
namespace Go.Proofs.Ytdbfecfcoephoaa.Mx
open Go
set_option autoImplicit false
set_option linter.unusedVariables false
set_option linter.unusedSimpArgs false
set_option maxRecDepth 4000
variable {P : Program}
attribute [local irreducible] q0 q1 q2 q3 q4 qh q5 q6 q7 q8a q8b q8c q8 q9t q9f q11a q11 q12 hx headJ
section
variable {mt : Nat → Prop} {g : Gh} {w : World} {N r : Nat} {Q : Exit → Act → World → Prop} {ks : List It4}
theorem MapAt.keep {g1 g' : Gh} {w1 w2 : World} (hM : MapAt w1 r ks) (e : Ext (Mt2 mt r) g1 w1 g' w2) : MapAt w2 r ks := by
  obtain ⟨es, clock, h1, h2⟩ := hM
  exact ⟨es, clock, (e.keep r (lt_of_get h1) (.inl fun h => h.2 rfl)).trans h1, h2⟩
theorem move_run {o : Oper} {a : Act} {w2 : World} {t : Nat} (h : o.op = .move (.tmp t)) : (execOp a.eval o).run P w2 = .ok (.value (a.tmps.getD t undef)) w2 := by
  unfold execOp
  rw [h]
  rfl
theorem assign_run {o : Oper} {a : Act} {w2 : World} {t : Nat} (h : o.op = .assign (.tmp t)) : (execOp a.eval o).run P w2 = .ok (.value (a.tmps.getD t undef)) w2 := by
  unfold execOp
  rw [h]
  rfl
end
section
variable {E : Env} {c : Code} {tM tX tI : Nat} {pl : It4 → Option R5} {my : Wd11 → It4 → Option (Bool × Unit)} (T : ChkParts E c tM pl my) (ok : EnvOk P E) (hkeep : E.keep = []) (hm : E.m = 0)
  (hmap : P.underlying tM = some (.map tX tI)) (hwide : (match P.underlying tX with | some (.array _ _) | some (.struct _) => true | _ => false) = true) (eq : EqOk P tX k4)
  (hchk : ∀ (em : Bool) (k : It4) (w : World), (Instr.checkKey em 10000 tX (keyV k)).run P w = .ok () w) (hzero : ∀ w, (zeroValue tI).run P w = .ok (.int .i64 0) w)
  {mt : Nat → Prop} {g : Gh} {w : World} {N r : Nat} {x : Wd11} (hN : 43 ≤ N)
include T ok hmap hwide eq hchk hN
theorem reg11_does {Q : Exit → Act → World → Prop} {i : Int} {y : It4} {r5 : R5} {b : Bool} (hp : pl y = some r5) {a : Act} {w2 : World} {ks : List It4} (hni : rk r5 ∉ ks) (hG : MG mt g w N r (q9f x i y r5 b) 417 a w2 ks)
    (hK : ∀ a' w', MG mt g w N r (q11 x i y r5 b r5) 497 a' w' (ks ++ [rk r5]) → Q .normal a' w') : (Code.region 11 (reg c 11) false).wp P Q a w2 := by
  obtain ⟨g1, w1, e, hφ, hro, hmr, hmt, hM, ⟨g', A⟩, h3⟩ := hG
  have hnew := mt2_new hmt hM
  refine wp_region ?_
  rw [T.s11]
  show wpOps P (reg c 11) Q (0 :: (idx 1 3 ++ (4 :: []))) a w2
  obtain ⟨oV, v1, v2, v3, v4⟩ := T.o11a.get
  refine hand_wp v1 v2 (move_run v4) ?_
  rw [v3, h3]
  have A1 := A.put' (v := .dead) (V := .map (some r)) trivial (some 38) (sl' := (q11a x i y r5 b).1) (H' := hget (q11a x i y r5 b).2) (nx' := 417 + keys * 1) (by kernel_rfl) (by kernel_rfl) (by simp only [keys]; omega)
  have t38 : (a.put (some 38) (.map (some r))).tmps.getD 38 undef = .map (some r) := put_get (by rw [A.dfs.2]; omega)
  have t3 : (a.put (some 38) (.map (some r))).tmps.getD 3 undef = .map (some r) := (put_other (ts := [3]) (by decide) 3 (by simp)).trans h3
  have hl : (((reg c 11).toList.drop 1).take 3).length = 3 := by simp [T.s11]
  have key : wpOps P (reg c 11) Q (idx 1 (((reg c 11).toList.drop 1).take 3).length ++ (4 :: [])) (a.put (some 38) (.map (some r))) w2 := by
    refine part_does ok hnew (i := 1) (next := 417) (ts := [3, 38]) (s := q11a x i y r5 b) (r := q11 x i y r5 b r5) cut_at T.n11 ?_ A1 fun a2 w3 g2 A2 k2 => ?_
    · show partRun E (reg c 11) _ (q11a x i y r5 b) 433 = _
      rw [T.h11, hp]
      rfl
    · rw [hl] at A2
      have m38 : a2.tmps.getD 38 undef = .map (some r) := (k2 38 (by simp)).trans t38
      have m3 : a2.tmps.getD 3 undef = .map (some r) := (k2 3 (by simp)).trans t3
      have h40 : a2.tmps.getD 40 undef = keyV (rk r5) := agg_il (by have h := A2.slr 40; rw [show getS (q11 x i y r5 b r5).1 40 = va (il (rk r5)) by kernel_rfl] at h; exact h)
      obtain ⟨w4, hu, hM4, hsz, hoth, ho1, ho2, ho3⟩ := run_update4 hmap hwide eq hchk (hM.keep A2.ext) (rk r5) hni (a2.tmps.getD 41 undef)
      obtain ⟨oU, u1, u2, u3, u4⟩ := T.o11e.get
      refine hand_wp_skip u1 u2 (w' := w4) ?_ ?_
      · unfold execOp
        rw [u4]
        show (Instr.mapUpdate tM (a2.tmps.getD 38 undef) (a2.tmps.getD 40 undef) (a2.tmps.getD 41 undef) >>= fun _ => pure Next.skip).run P w3 = _
        rw [m38, h40, Sem.run_bind, hu]
        rfl
      · rw [u3]
        have hnr : ¬ g2.ro r := fun h => (A2.ext.ro' r h).elim hro fun h => h.2 rfl
        obtain ⟨e', A4⟩ := rebase e (fun b h => h.1) A2 (fun b _ h => h) hnr hmr ho1 ho2 ho3 (Nat.le_of_eq hsz.symm) (fun b hb _ => hoth b hb)
        exact hK a2 w4 ⟨gK [] g2, w4, e', gK_none, hnr, hmr, fun b hb => hmt b (Nat.le_trans A2.ext.size (by rw [← hsz]; exact hb)), hM4, ⟨g2, A4.put (v := .dead) (V := undef) trivial none (nx' := 497) (by simp only [keys]; omega)⟩, m3⟩
  rw [hl] at key
  exact key
include hzero
theorem reg8_does {Q : Exit → Act → World → Prop} {i : Int} {y : It4} {r5 : R5} (hp : pl y = some r5) {a : Act} {w2 : World} {ks : List It4} (hG : MG mt g w N r (q7 x i y) 161 a w2 ks)
    (hK : ∀ a' w', MG mt g w N r (q8 x i y r5 (decide (rk r5 ∈ ks))) 305 a' w' ks → Q .normal a' w') : (Code.region 8 (reg c 8) false).wp P Q a w2 := by
  obtain ⟨g1, w1, e, hφ, hro, hmr, hmt, hM, ⟨g', A⟩, h3⟩ := hG
  have hnew := mt2_new hmt hM
  refine wp_region ?_
  rw [T.s8]
  show wpOps P (reg c 8) Q (0 :: (idx 1 2 ++ (3 :: (idx 4 5 ++ [])))) a w2
  obtain ⟨oV, v1, v2, v3, v4⟩ := T.o8a.get
  refine hand_wp v1 v2 (move_run v4) ?_
  rw [v3, h3]
  have A1 := A.put' (v := .dead) (V := .map (some r)) trivial (some 25) (sl' := (q8a x i y).1) (H' := hget (q8a x i y).2) (nx' := 161 + keys * 1) (by kernel_rfl) (by kernel_rfl) (by simp only [keys]; omega)
  have t25 : (a.put (some 25) (.map (some r))).tmps.getD 25 undef = .map (some r) := put_get (by rw [A.dfs.2]; omega)
  have t3 : (a.put (some 25) (.map (some r))).tmps.getD 3 undef = .map (some r) := (put_other (ts := [3]) (by decide) 3 (by simp)).trans h3
  have hl : (((reg c 8).toList.drop 1).take 2).length = 2 := by simp [T.s8]
  have hl2 : ((reg c 8).toList.drop 4).length = 5 := by simp [T.s8]
  have key : wpOps P (reg c 8) Q (idx 1 (((reg c 8).toList.drop 1).take 2).length ++ (3 :: (idx 4 5 ++ []))) (a.put (some 25) (.map (some r))) w2 := by
    refine part_does ok hnew (i := 1) (next := 161) (ts := [3, 25]) (s := q8a x i y) (r := q8b x i y r5) cut_at T.n8b ?_ A1 fun a2 w3 g2 A2 k2 => ?_
    · show partRun E (reg c 8) _ (q8a x i y) 177 = _
      rw [T.h8b, hp]
      rfl
    · rw [hl] at A2
      have m25 : a2.tmps.getD 25 undef = .map (some r) := (k2 25 (by simp)).trans t25
      have m3 : a2.tmps.getD 3 undef = .map (some r) := (k2 3 (by simp)).trans t3
      have h27 : a2.tmps.getD 27 undef = keyV (rk r5) := agg_il (by have h := A2.slr 27; rw [show getS (q8b x i y r5).1 27 = va (il (rk r5)) by kernel_rfl] at h; exact h)
      obtain ⟨v, hv⟩ := run_lookup4 hmap hwide eq hchk hzero (hM.keep A2.ext) (rk r5)
      obtain ⟨oL, l1, l2, l3, l4⟩ := T.o8d.get
      refine hand_wp l1 l2 (V := .tuple #[v, .bool (decide (rk r5 ∈ ks))]) (w' := w3) ?_ ?_
      · unfold execOp
        rw [l4]
        show (Instr.lookup tM (a2.tmps.getD 25 undef) (a2.tmps.getD 27 undef) true >>= fun v => pure (Next.value v)).run P w3 = _
        rw [m25, h27, Sem.run_bind, hv]
        rfl
      · rw [l3]
        have A3 := A2.put' (v := .tup [.c .dead, .c (.bool (decide (rk r5 ∈ ks)))]) (V := .tuple #[v, .bool (decide (rk r5 ∈ ks))]) ⟨[v, .bool (decide (rk r5 ∈ ks))], rfl, trivial, rfl, trivial⟩ (some 28) (sl' := (q8c x i y r5 (decide (rk r5 ∈ ks))).1) (H' := hget (q8c x i y r5 (decide (rk r5 ∈ ks))).2) (nx' := 161 + keys * 4) (by kernel_rfl) (by kernel_rfl) (by simp only [keys]; omega)
        have k3 : (a2.put (some 28) (.tuple #[v, .bool (decide (rk r5 ∈ ks))])).tmps.getD 3 undef = .map (some r) := (put_other (ts := [3]) (by decide) 3 (by simp)).trans m3
        have key2 : wpOps P (reg c 8) Q (idx 4 ((reg c 8).toList.drop 4).length ++ []) (a2.put (some 28) (.tuple #[v, .bool (decide (rk r5 ∈ ks))])) w3 := by
          refine part_does ok hnew (i := 4) (next := 161) (ts := [3]) (s := q8c x i y r5 (decide (rk r5 ∈ ks))) (r := q8 x i y r5 (decide (rk r5 ∈ ks))) drop_at T.n8 (T.h8 x i y r5 _) A3 fun a4 w4 g4 A4 k4 => ?_
          rw [hl2] at A4
          exact hK a4 w4 ⟨g1, w1, e, hφ, hro, hmr, hmt, hM, ⟨g4, A4⟩, (k4 3 (by simp)).trans k3⟩
        rw [hl2] at key2
        exact key2
  rw [hl] at key
  exact key
variable (h40 : (its x).length = 40)
include hkeep hm h40
theorem loop_does {b : Bool} {Q : Exit → Act → World → Prop} (hexit : ∀ a w2 ks, MG mt g w N r (q5 x ((40 : Nat) : Int)) 17 a w2 ks → b = true → Q (.exit 0) a w2)
    (hret : ∀ (s : SH) (nx : Nat) a w2 ks, MG mt g w N r s nx a w2 ks → getS s.1 2 = vb false → b = false → Q .ret a w2) :
    ∀ (l : List It4) (i : Nat) (ks : List It4), (its x).drop i = l → i + l.length = 40 → chkGo pl (my x) l ks = some b → ∀ a w2, MG mt g w N r (qh x (i : Int)) 1 a w2 ks → LoopP P (loopIn c) Q a w2 := by
  intro l
  induction l with
  | nil =>
    intro i ks hd hi hb a w2 hG
    obtain rfl : i = 40 := by simpa using hi
    have hbt : b = true := by simp only [chkGo, Option.some.injEq] at hb; exact hb.symm
    refine loop_round (wp_seq (hG.region ok (T.h5 x _) T.n5 (nx' := 17) (by rw [T.s5]; rfl) fun a1 w3 G1 => ?_))
    refine wp_seq (wp_cond_false (G1.bool (t := 17) (b := false) ?_) (wp_exit ?_))
    · refine Eq.trans (b := vb (decide (((40 : Nat) : Int) < ((its x).length : Int)))) (by kernel_rfl) ?_
      rw [h40]; rfl
    · exact hexit a1 w3 ks G1 hbt
  | cons y l ih =>
    intro i ks hd hi hb a w2 hG
    have hi40 : i < 40 := by simp only [List.length_cons] at hi; omega
    have hy : (its x).getD i (0, 0, 0, 0) = y := by
      have := congrArg (fun l => l[0]?) hd
      simp only [List.getElem?_drop, Nat.add_zero, List.getElem?_cons_zero] at this
      rw [List.getD_eq_getElem?_getD, this]; rfl
    have hd' : (its x).drop (i + 1) = l := by rw [← List.drop_drop, hd]; rfl
    have hwrap : IntKind.wrap .i64 ((i : Int) + 1) = ((i + 1 : Nat) : Int) := by
      have e : ∀ z : Int, IntKind.wrap .i64 z = if z % 18446744073709551616 ≥ 9223372036854775808 then z % 18446744073709551616 - 18446744073709551616 else z % 18446744073709551616 := fun z => by simp [IntKind.wrap, IntKind.signed, IntKind.bits]
      rw [e]
      have : ((i : Int) + 1) % 18446744073709551616 = (i : Int) + 1 := by omega
      rw [this, if_neg (by omega)]; omega
    have next : ∀ (s : SH) (nx : Nat) (a : Act) (w2 : World) (ks' : List It4), MG mt g w N r (q12 s i) nx a w2 ks' → decSt headJ E.m E.keep ⟨(q12 s i).1, (q12 s i).2, nx⟩ some = some (hx x (IntKind.wrap .i64 ((i : Int) + 1))) → chkGo pl (my x) l ks' = some b → LoopP P (loopIn c) Q a w2 := fun s nx a w2 ks' G hdec hgo => by
      have G2 := G.head hm hkeep hN hdec
      rw [hwrap] at G2
      exact ih (i + 1) ks' hd' (by simp only [List.length_cons] at hi; omega) hgo a w2 G2
    refine loop_round (wp_seq (hG.region ok (T.h5 x _) T.n5 (nx' := 17) (by rw [T.s5]; rfl) fun a1 w3 G1 => ?_))
    refine wp_seq (wp_cond_true (G1.bool (t := 17) (b := true) ?_) (wp_skip ?_))
    · refine Eq.trans (b := vb (decide ((i : Int) < ((its x).length : Int)))) (by kernel_rfl) ?_
      rw [h40, decide_eq_true (show (i : Int) < ((40 : Nat) : Int) by omega)]
    refine wp_seq (wp_block ?_)
    have e6 : partRun E (reg c 6) (reg c 6).toList (q5 x i) 17 = some (q6 x i y) := by
      have e := T.h6 x (i : Int)
      have hr : inRange (i : Int) (its x).length = true := by
        unfold inRange
        rw [h40]
        exact decide_eq_true (by omega)
      rw [hr, Int.toNat_natCast, hy] at e
      exact e
    refine wp_seq (G1.region ok e6 T.n6 (nx' := 113) (by rw [T.s6]; rfl) fun a2 w4 G2 => ?_)
    refine wp_seq (wp_seq (G2.region ok (T.h7 x _ y) T.n7 (nx' := 161) (by rw [T.s7]; rfl) fun a3 w5 G3 => ?_))
    by_cases hz : y = (0, 0, 0, 0)
    · refine wp_cond_true (G3.bool (t := 23) (b := true) ?_) (wp_exit ?_)
      · rw [hz]; kernel_rfl
      · rw [chkGo, if_pos hz] at hb
        refine then_exit (block_exit ?_)
        exact G3.region ok (T.h12a x i y) T.n12 (nx' := 193) (by rw [T.s12]; rfl) fun a4 w6 G4 => next (q7 x i y) 193 a4 w6 ks G4 (T.d12a x i y) hb
    · have hzb : (y.1 == 0 && (y.2.1 == 0 && (y.2.2.1 == 0 && (y.2.2.2 == 0 && true)))) = false := by
        obtain ⟨y1, y2, y3, y4⟩ := y
        rw [Bool.eq_false_iff]
        intro hc
        simp only [Bool.and_eq_true, beq_iff_eq, Bool.and_true] at hc
        obtain ⟨rfl, rfl, rfl, rfl⟩ := hc
        exact hz rfl
      refine wp_cond_false (G3.bool (t := 23) (b := false) (Eq.trans (b := vb (y.1 == 0 && (y.2.1 == 0 && (y.2.2.1 == 0 && (y.2.2.2 == 0 && true))))) (by kernel_rfl) (congrArg vb hzb))) (wp_skip ?_)
      rw [chkGo, if_neg hz] at hb
      cases hp : pl y with
      | none => rw [hp] at hb; cases hb
      | some r5 =>
        rw [hp] at hb
        simp only at hb
        refine wp_seq (wp_seq (reg8_does T ok hmap hwide eq hchk hzero hN hp G3 fun a4 w6 G4 => ?_))
        by_cases hk : rk r5 ∈ ks
        · rw [if_pos hk] at hb
          rw [decide_eq_true hk] at G4
          refine wp_seq (G4.region ok (T.h9t x i y r5) T.n9 (nx' := 417) (by rw [T.s9]; rfl) fun a5 w7 G5 => ?_)
          refine wp_cond_true (G5.bool (t := 37) (b := true) (by kernel_rfl)) (wp_seq (G5.region ok (T.h10t x i y r5) T.n10 rfl fun a6 w8 G6 => wp_ret ?_))
          exact hret _ _ a6 w8 ks G6 (by kernel_rfl) (by simpa using hb.symm)
        · rw [if_neg hk] at hb
          rw [decide_eq_false hk] at G4
          cases hmy : my x y with
          | none => rw [hmy] at hb; cases hb
          | some bb =>
            rw [hmy] at hb
            simp only at hb
            have e9 : partRun E (reg c 9) (reg c 9).toList (q8 x i y r5 false) 305 = some (q9f x i y r5 bb.1) := by rw [T.h9f, hmy]; rfl
            refine wp_seq (G4.region ok e9 T.n9 (nx' := 417) (by rw [T.s9]; rfl) fun a5 w7 G5 => ?_)
            cases hbb : bb.1 with
            | false =>
              rw [hbb] at hb G5
              refine wp_cond_true (G5.bool (t := 37) (b := true) (by kernel_rfl)) (wp_seq (G5.region ok (T.h10f x i y r5 false) T.n10 rfl fun a6 w8 G6 => wp_ret ?_))
              exact hret _ _ a6 w8 ks G6 (by kernel_rfl) (by simpa using hb.symm)
            | true =>
              rw [hbb] at hb G5
              rw [if_pos rfl] at hb
              refine wp_cond_false (G5.bool (t := 37) (b := false) (by kernel_rfl)) (wp_skip ?_)
              refine reg11_does T ok hmap hwide eq hchk hN hp hk G5 fun a6 w8 G6 => ?_
              exact G6.region ok (T.h12b x i y r5 true r5) T.n12 (nx' := 529) (by rw [T.s12]; rfl) fun a7 w9 G7 => next (q11 x i y r5 true r5) 529 a7 w9 (ks ++ [rk r5]) G7 (T.d12b x i y r5 true r5) hb
end
theorem chk_sound {E : Env} {c : Code} {tM tX tI : Nat} {pl : It4 → Option R5} {my : Wd11 → It4 → Option (Bool × Unit)} {f : Nat} {fn : Func} (hf : P.funcs[f]? = some fn) (hb : fn.body = some (chkCode c)) (hname : (fn.name == "runtime.NumGoroutine") = false) (hnt : fn.ntmps = 43) (hres : fn.results = #[.tmp 2])
    (T : ChkParts E c tM pl my) (ok : EnvOk P E) (hkeep : E.keep = []) (hm : E.m = 0)
    (hmap : P.underlying tM = some (.map tX tI)) (hwide : (match P.underlying tX with | some (.array _ _) | some (.struct _) => true | _ => false) = true) (eq : EqOk P tX k4)
    (hchk : ∀ (em : Bool) (k : It4) (w : World), (Instr.checkKey em 10000 tX (keyV k)).run P w = .ok () w) (hzero : ∀ w, (zeroValue tI).run P w = .ok (.int .i64 0) w) :
    Sound P f ⟨chkIns, chkOuts, [], fun x => chkF pl my x⟩ := by
  refine ⟨rfl, rfl, fun x res hr mt g w vs as os L M hmt hg hargs => .inl ⟨?_, ?_⟩⟩
  · have hbn : fn.body.isNone = false := by rw [hb]; rfl
    simp only [callFunc, Sem.run_bind, run_program, Result.andThen_ok, hf, hname, hbn, Bool.false_eq_true, if_false, Sem.run_pure]
  · have hr : chkF pl my x = some res := hr
    obtain ⟨rfl, rfl⟩ := L.same (as' := [(0, .agg (wl x))]) (os' := []) fun K => rfl
    have e0 : Ext mt (gK [] g) w g w := ⟨rfl, rfl, rfl, Nat.le_refl _, fun _ _ _ => rfl, fun _ h => h, fun _ h => .inl h, fun n Q h => by rw [gK_none] at h; cases h⟩
    have finE : ∀ (s : SH) (nx : Nat) (b : Bool), getS s.1 2 = vb b → fin E fn chkOuts .ret ⟨s.1, s.2, nx⟩ = some (b, ()) := fun s nx b h => by
      have h2 : resAV ⟨s.1, s.2, nx⟩ E.ti (.tmp 2) = some (.c (.bool b)) := by
        show svA (getS s.1 2) = _
        rw [h]; rfl
      unfold fin
      rw [hres]
      show decOuts E.keep _ (nthO [resAV ⟨s.1, s.2, nx⟩ E.ti (.tmp 2)]) chkOuts id = _
      rw [h2, hkeep]
      rfl
    have fin0 : ∀ (mtA : Nat → Prop) (g1 : Gh) (w1 : World) (N : Nat) (s : SH) (nx : Nat) (a : Act) (w2 : World) (b : Bool), (∀ b, mtA b → mt b) → (∀ n, g1.φ n = none) → Ext mt (gK [] g) w g1 w1 → Inv mtA g1 w1 [] N ⟨s.1, s.2, nx⟩ a w2 → getS s.1 2 = vb b → res = (b, ()) →
        bodyPost P fn (fun ed w2 => ∃ V, ed = .returned V ∧ Outs chkOuts res fun _ as' os' => ∃ g', Ext mt (gK [] g) w g' w2 ∧ Mem mt g' (hget os') w2.heap ∧ SVR g' w2.heap (mkRes as') V) .ret a w2 := fun mtA g1 w1 N s nx a w2 b sub hφ e hI hs hrb => by
      subst hrb
      obtain ⟨_, h3, V, h4, h5⟩ := fin_does (P := P) (mt := mtA) (g0 := g1) (w0 := w1) (ds := []) (N := N) ok.1 (fun n _ => hφ n) (outs := chkOuts) rfl (finE s nx b hs) hI
      refine ⟨h3, V, h4, V, rfl, ?_⟩
      obtain ⟨as', os', L', g', k1, k2, k3⟩ := h5
      refine ⟨as', os', L', g', ?_, k2.less fun b _ h => sub b h, k3⟩
      exact e.trans (k1.more sub)
    have fin1 : ∀ (N r : Nat) (s : SH) (nx : Nat) (a : Act) (w2 : World) (ks : List It4) (b : Bool), MG mt g w N r s nx a w2 ks → getS s.1 2 = vb b → res = (b, ()) →
        bodyPost P fn (fun ed w2 => ∃ V, ed = .returned V ∧ Outs chkOuts res fun _ as' os' => ∃ g', Ext mt (gK [] g) w g' w2 ∧ Mem mt g' (hget os') w2.heap ∧ SVR g' w2.heap (mkRes as') V) .ret a w2 := fun N r s nx a w2 ks b ⟨g1, w1, e, hφ, hro, hmr, hmt', hM, hI, h3⟩ hs hrb =>
      fin0 _ g1 w1 N s nx a w2 b (fun b h => h.1) hφ e hI hs hrb
    refine calls_of_wp hf hb ?_
    have hsz : 43 ≤ (vs ++ Array.replicate (fn.ntmps - vs.size) undef).size := by simp [hnt]; omega
    have A0 : After mt (gK [] g) w (hget (q0 x).2) (q0 x).1 0 [] (vs ++ Array.replicate (fn.ntmps - vs.size) undef).size { tmps := vs ++ Array.replicate (fn.ntmps - vs.size) undef, defers := [] } w g := by
      rw [show (q0 x).1 = (deads 43).set 0 (va (wl x)) by kernel_rfl, show (q0 x).2 = [] by kernel_rfl]
      refine ⟨e0, M, ?_, ?_, hg, rfl, rfl⟩
      · have := layS_R (g := g) (hp := w.heap) (a := { tmps := vs ++ Array.replicate (fn.ntmps - vs.size) undef, defers := [] }) [(0, .agg (wl x))] (deads 43) (fun i y hi => ?_) (fun t => by rw [deads_get]; trivial)
        · exact this
        · have h2 := hargs i y hi
          have : (vs ++ Array.replicate (fn.ntmps - vs.size) undef).getD i undef = vs.getD i undef := by
            simp only [Array.getD_eq_getD_getElem?, Array.getElem?_append]
            split
            · rfl
            · rename_i hlt
              rw [Array.getElem?_eq_none (xs := vs) (Nat.not_lt.1 hlt), Array.getElem?_replicate]
              split <;> rfl
          rw [this]
          exact h2
      · show ((deads 43).set 0 (va (wl x))).length ≤ _
        rw [List.length_set, deads_len]
        exact hsz
    generalize (vs ++ Array.replicate (fn.ntmps - vs.size) undef).size = N at hsz A0
    generalize ({ tmps := vs ++ Array.replicate (fn.ntmps - vs.size) undef, defers := [] } : Act) = a0 at A0 ⊢
    refine wp_seq (region_part ok hmt (ts := []) (T.h0 x) (noDst_nil _) A0 fun a1 w1 g1 A1 _ => ?_)
    rw [T.s0] at A1
    refine wp_seq (wp_seq (region_part ok hmt (ts := []) (next := 32) (T.h1 x) (noDst_nil _) A1 fun a2 w2 g2 A2 _ => ?_))
    rw [T.s1] at A2
    have hc : a2.eval (.tmp 11) = .bool (((its x).length : Int) != 40) := by
      have h := rd_SVR A2.slr (.tmp 11)
      rw [show rd (q2 x).1 (.tmp 11) = vb (((its x).length : Int) != 40) by kernel_rfl] at h
      exact h
    unfold chkF at hr
    by_cases h40 : (its x).length = 40
    · rw [if_pos h40] at hr
      obtain ⟨b, hgo, hrb⟩ := Option.map_eq_some_iff.1 hr
      rw [h40] at hc
      refine wp_cond_false hc (wp_skip ?_)
      refine wp_seq (wp_region ?_)
      rw [T.s3]
      show wpOps P (reg c 3) _ [0, 1] a2 w2
      obtain ⟨oM, m1, m2, m3, m4⟩ := T.o3a.get
      obtain ⟨oA, p1, p2, p3, p4⟩ := T.o3b.get
      refine hand_wp m1 m2 (V := .map (some w2.heap.size)) (w' := { w2 with heap := w2.heap.push (.map #[] 0) }) ?_ ?_
      · unfold execOp
        rw [m4]
        rfl
      rw [m3]
      refine hand_wp p1 p2 (assign_run p4) ?_
      rw [p3, put_get (by rw [A2.dfs.2]; omega)]
      have hnr : ¬ g2.ro w2.heap.size := fun h => absurd (A2.mem.ro _ h) (Nat.lt_irrefl _)
      have hmr : mt w2.heap.size := hmt _ A2.ext.size
      obtain ⟨e', A3⟩ := rebase (mt := mt) (mtA := mt) (w3 := { w2 with heap := w2.heap.push (.map #[] 0) }) (r := w2.heap.size) (show Ext mt (gK [] g) w (gK [] g) w from Ext.refl _ _ _) (fun b h => h) A2 (fun b hb h => ⟨h, Nat.ne_of_lt hb⟩) hnr hmr rfl rfl rfl (by simp) (fun b _ hb => push_old _ _ _ hb)
      have A4 := A3.put (v := .dead) (V := .map (some w2.heap.size)) trivial (some 12) (Nat.le_refl _)
      have A5 := A4.put' (v := .dead) (V := .map (some w2.heap.size)) trivial (some 3) (sl' := (q3 x).1) (H' := hget (q3 x).2) (nx' := 128) (by kernel_rfl) (by kernel_rfl) (by simp only [keys]; omega)
      have G0 : MG mt g w N w2.heap.size (q3 x) 128 ((a2.put (some 12) (.map (some w2.heap.size))).put (some 3) (.map (some w2.heap.size))) { w2 with heap := w2.heap.push (.map #[] 0) } [] := by
        refine ⟨gK [] g2, _, e', gK_none, hnr, hmr, fun b hb => hmt b (Nat.le_trans A2.ext.size (Nat.le_trans (by simp) hb)), ⟨#[], 0, push_new _ _, rfl⟩, ⟨g2, A5⟩, put_get (by rw [put_size, A2.dfs.2]; omega)⟩
      show (Code.seq _ _).wp P _ _ _
      refine wp_seq (wp_seq (G0.region ok (T.h4 x) T.n4 (nx' := 192) (by rw [T.s4]; rfl) fun a3 w3 G1 => ?_))
      have G2 := G1.head hm hkeep hsz (T.d4 x)
      refine wp_block (loop_start (loop_does T ok hkeep hm hmap hwide eq hchk hzero hsz h40 (b := b) (fun a4 w4 ks G3 hbt => ?_) (fun s nx a4 w4 ks G3 hs hbf => ?_) (its x) 0 [] rfl (by simpa using h40) hgo a3 w3 G2))
      · refine block_exit ?_
        refine wp_seq (G3.region ok (T.h13 x _) T.n13 rfl fun a5 w5 G4 => wp_ret ?_)
        exact fin1 _ _ _ _ a5 w5 ks true G4 (by kernel_rfl) (by rw [← hrb, hbt])
      · exact fin1 _ _ s nx a4 w4 ks false G3 hs (by rw [← hrb, hbf])
    · rw [if_neg h40] at hr
      have hr := Option.some.inj hr
      have hne : (((its x).length : Int) != 40) = true := by
        rw [bne_iff_ne]; omega
      rw [hne] at hc
      refine wp_cond_true hc (wp_seq (region_part ok hmt (ts := []) (next := 96) (T.h2 x) (noDst_nil _) A2 fun a3 w3 g3 A3 _ => wp_ret ?_))
      exact fin0 mt (gK [] g) w N ((q2 x).1.set 2 (vb false), (q2 x).2) _ a3 w3 false (fun _ h => h) gK_none (Ext.refl _ _ _) ⟨g3, A3⟩ (by kernel_rfl) hr.symm
end Go.Proofs.Ytdbfecfcoephoaa.Mx

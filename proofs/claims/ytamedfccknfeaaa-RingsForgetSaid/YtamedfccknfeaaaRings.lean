/- What the functions of rings compute (own work). -/
import Derived.Test.YtamedfccknfeaaaRun
import Derived.Test.YtamedfccknfeaaaPc
namespace Go.Proofs.Ytamedfccknfeaaa.Rings
open Go Go.Proofs.Ytamedfccknfeaaa.Mx Go.Proofs.Ytamedfccknfeaaa.Pc Go.Proofs.Ytamedfccknfeaaa.Run
set_option autoImplicit false
set_option linter.unusedVariables false
set_option linter.unusedSimpArgs false
def clamp (x : Int) : Int := if x < 0 then 0 else if x > 10 then 0 else x
theorem clamp_lo {x : Int} (h : x < 0) : clamp x = 0 := if_pos h
theorem clamp_hi {x : Int} (h : ¬ x < 0) (h' : x > 10) : clamp x = 0 := by unfold clamp; rw [if_neg h, if_pos h']
theorem clamp_id {x : Int} (h : ¬ x < 0) (h' : ¬ x > 10) : clamp x = x := by unfold clamp; rw [if_neg h, if_neg h']
theorem new_eq (a : Int) : f12 a = some (max a 0, ()) := by unfold f12; rw [maxI_eq]
/-- What Put makes of a ring's inputs: how many, which word, the inputs behind it. -/
def put (first : Int) (l : List Int) (fr : Int) (cur : List Int) : Int × Int × Int × List Int × Unit :=
  if first > fr + cur.length + 1 then (0, 20, fr, cur, ())
  else if first < 1 then (0, 1, fr, cur, ())
  else ((l.drop (fr + cur.length + 1 - first).toNat).length, 0, fr, cur ++ (l.drop (fr + cur.length + 1 - first).toNat).map clamp, ())
theorem put1 (first : Int) (l : List Int) (fr : Int) (cur : List Int) (h0 : 0 ≤ fr) (h1 : fr ≤ 1000000000000) (h2 : cur.length ≤ 1000000000) (h3 : l.length ≤ 1000000000) (h4 : -1000000000000 ≤ first) : f13_1 first l fr cur = some (put first l fr cur) := by
  refine OK.eq ?_
  unfold f13_1 f15 put
  simp (disch := omega) only [wr, Option.bind_some]
  refine OK.ite (fun c => ?_) fun c => ?_
  · rw [if_pos c]; exact OK.ret rfl
  rw [if_neg c]
  refine OK.ite (fun c => ?_) fun c => ?_
  · rw [if_pos c]; exact OK.ret rfl
  rw [if_neg c]
  rw [wr (by omega : -9223372036854775808 ≤ fr + cur.length + 1 - first ∧ _)]
  have hm : minI (fr + cur.length + 1 - first) l.length = ((min (fr + cur.length + 1 - first).toNat l.length : Nat) : Int) := by rw [minI_eq]; omega
  rw [hm]
  refine OK.guard (by simp; omega) ?_
  have hd : List.drop (Int.toNat ((min (fr + cur.length + 1 - first).toNat l.length : Nat) : Int)) (List.take l.length l) = l.drop (fr + cur.length + 1 - first).toNat := by
    rw [Int.toNat_natCast, List.take_length]
    rcases Nat.le_total (fr + cur.length + 1 - first).toNat l.length with h | h
    · rw [Nat.min_eq_left h]
    · rw [Nat.min_eq_right h, List.drop_length, List.drop_eq_nil_of_le h]
  rw [hd]
  generalize hm : l.drop (fr + cur.length + 1 - first).toNat = m
  have hml : m.length ≤ 1000000000 := by rw [← hm, List.length_drop]; omega
  clear hd
  refine OK.loop (fun i : Nat => (m, m, (m.length : Int), (i : Int), fr, cur ++ (m.take i).map clamp, ())) (fun i => i ≤ m.length) (fun i => m.length - i) (fun rec i hi ih => ?_) 0 (by simp) (Nat.zero_le _) (by omega)
  simp only [Int.toNat_natCast]
  refine OK.ite (fun c => ?_) fun c => ?_
  · have hi : i < m.length := by omega
    refine OK.guard (inR (by omega)) ?_
    refine OK.callR (R := fun a => a = Sum.inl (m, clamp (m.getD i 0), m, (m.length : Int), (i : Int), fr, cur ++ (m.take i).map clamp, ())) ?_ ?_
    · refine OK.ite (fun c => OK.ret ?_) fun c => OK.ite (fun c' => OK.ret ?_) fun c' => OK.ret ?_
      · rw [clamp_lo c]
      · rw [clamp_hi c c']
      · rw [clamp_id c c']
    · rintro _ rfl
      refine OK.guard (by simp [limit]; omega) ?_
      refine ih (i + 1) (by omega) (by omega) _ ?_
      dsimp only
      rw [List.take_succ_eq_append_getElem hi, List.map_append, ← List.append_assoc, wr (by omega)]
      simp [List.getD_eq_getElem?_getD, hi]
  · exact OK.ret (by rw [show i = m.length by omega, List.take_length])
theorem put0 (first : Int) (l : List Int) (fr : Int) (h0 : 0 ≤ fr) (h1 : fr ≤ 1000000000000) (h3 : l.length ≤ 1000000000) (h4 : -1000000000000 ≤ first) : f13 first l fr = some (put first l fr []) := by
  refine OK.eq ?_
  unfold f13 f15
  have h2 : ([] : List Int).length ≤ 1000000000 := by decide
  revert h2
  generalize hcur : ([] : List Int) = cur
  intro h2
  unfold put
  simp (disch := omega) only [wr, Option.bind_some]
  refine OK.ite (fun c => ?_) fun c => ?_
  · rw [if_pos c]; exact OK.ret rfl
  rw [if_neg c]
  refine OK.ite (fun c => ?_) fun c => ?_
  · rw [if_pos c]; exact OK.ret rfl
  rw [if_neg c]
  rw [wr (by omega : -9223372036854775808 ≤ fr + cur.length + 1 - first ∧ _)]
  have hm : minI (fr + cur.length + 1 - first) l.length = ((min (fr + cur.length + 1 - first).toNat l.length : Nat) : Int) := by rw [minI_eq]; omega
  rw [hm]
  refine OK.guard (by simp; omega) ?_
  have hd : List.drop (Int.toNat ((min (fr + cur.length + 1 - first).toNat l.length : Nat) : Int)) (List.take l.length l) = l.drop (fr + cur.length + 1 - first).toNat := by
    rw [Int.toNat_natCast, List.take_length]
    rcases Nat.le_total (fr + cur.length + 1 - first).toNat l.length with h | h
    · rw [Nat.min_eq_left h]
    · rw [Nat.min_eq_right h, List.drop_length, List.drop_eq_nil_of_le h]
  rw [hd]
  generalize hm : l.drop (fr + cur.length + 1 - first).toNat = m
  have hml : m.length ≤ 1000000000 := by rw [← hm, List.length_drop]; omega
  clear hd
  refine OK.loop (fun i : Nat => (m, m, (m.length : Int), (i : Int), fr, cur ++ (m.take i).map clamp, ())) (fun i => i ≤ m.length) (fun i => m.length - i) (fun rec i hi ih => ?_) 0 (by simp) (Nat.zero_le _) (by omega)
  simp only [Int.toNat_natCast]
  refine OK.ite (fun c => ?_) fun c => ?_
  · have hi : i < m.length := by omega
    refine OK.guard (inR (by omega)) ?_
    refine OK.callR (R := fun a => a = Sum.inl (m, clamp (m.getD i 0), m, (m.length : Int), (i : Int), fr, cur ++ (m.take i).map clamp, ())) ?_ ?_
    · refine OK.ite (fun c => OK.ret ?_) fun c => OK.ite (fun c' => OK.ret ?_) fun c' => OK.ret ?_
      · rw [clamp_lo c]
      · rw [clamp_hi c c']
      · rw [clamp_id c c']
    · rintro _ rfl
      refine OK.guard (by simp [limit]; omega) ?_
      refine ih (i + 1) (by omega) (by omega) _ ?_
      dsimp only
      rw [List.take_succ_eq_append_getElem hi, List.map_append, ← List.append_assoc, wr (by omega)]
      simp [List.getD_eq_getElem?_getD, hi, ← hcur]
  · exact OK.ret (by rw [show i = m.length by omega, List.take_length])
/-- What Get tells. -/
def getR (fr : Int) (l : List Int) (frame : Int) : Int × Bool :=
  if frame ≤ fr then (0, false)
  else if frame ≤ fr + l.length then (l.getD (frame - fr - 1).toNat 0, true)
  else if 0 < l.length ∧ 1 ≤ l.getD (l.length - 1) 0 ∧ l.getD (l.length - 1) 0 ≤ 4 then (l.getD (l.length - 1) 0, false)
  else (0, false)
theorem get_eq (fr : Int) (l : List Int) (frame : Int) (h0 : 0 ≤ fr) (h1 : fr ≤ 1000000000000) (h2 : l.length ≤ 1000000000) (h3 : -1000000000000 ≤ frame) (h4 : frame ≤ 1000000000000000) : f14 (fr, l) frame = some ((getR fr l frame).1, (getR fr l frame).2, ()) := by
  unfold f14 f15 getR
  simp only [Option.bind_some, bif_dec, ge_iff_le, gt_iff_lt]
  simp (disch := omega) only [wr]
  have e : ((l.length : Int) - 1).toNat = l.length - 1 := by omega
  rw [e]
  generalize l.getD (l.length - 1) 0 = v
  by_cases c1 : frame ≤ fr
  · simp [c1]
  by_cases c2 : frame ≤ fr + l.length
  · simp [c1, c2, inR (show 0 ≤ frame - fr - 1 ∧ frame - fr - 1 < l.length by omega)]
  by_cases c3 : 0 < l.length
  · have c3' : 0 < (l.length : Int) := by omega
    by_cases c4 : 1 ≤ v
    · by_cases c5 : v ≤ 4
      · simp [c1, c2, c3, c4, c5, inR (show 0 ≤ (l.length : Int) - 1 ∧ (l.length : Int) - 1 < l.length by omega)]
      · simp [c1, c2, c3, c4, c5, inR (show 0 ≤ (l.length : Int) - 1 ∧ (l.length : Int) - 1 < l.length by omega)]
    · simp [c1, c2, c3, c4, inR (show 0 ≤ (l.length : Int) - 1 ∧ (l.length : Int) - 1 < l.length by omega)]
  · have : ¬ 0 < (l.length : Int) := by omega
    simp [c1, c2, c3, this]
/-- What Since tells. -/
theorem since_eq (fr : Int) (l : List Int) (frame : Int) (h0 : 0 ≤ fr) (h1 : fr ≤ 1000000000000) (h2 : l.length ≤ 1000000000) (h3 : -1000000000000 ≤ frame) : f17 (fr, l) frame = some (l.drop (min (max frame fr) (fr + l.length) - fr).toNat, ()) := by
  unfold f17 f15 f32 cloneF
  simp only [Option.bind_some, bif_dec, maxI_eq, minI_eq]
  simp (disch := omega) only [wr]
  rw [if_pos (by omega), if_pos (by simp [limit]; omega)]
  simp [List.take_length]
theorem trim_eq (fr : Int) (l : List Int) (frame : Int) (h0 : 0 ≤ fr) (h1 : fr ≤ 1000000000000) (h2 : l.length ≤ 1000000000) (h3 : -1000000000000 ≤ frame) :
    f18 frame fr l = some (if min (max frame fr) (fr + l.length - 1) - fr > 0 then min (max frame fr) (fr + l.length - 1) else fr, l.drop (min (max frame fr) (fr + l.length - 1) - fr).toNat, ()) := by
  unfold f18 f15 f32 cloneF
  simp only [Option.bind_some, bif_dec, maxI_eq, minI_eq]
  simp (disch := omega) only [wr]
  by_cases c : min (max frame fr) (fr + l.length - 1) - fr > 0
  · rw [if_pos c, if_pos (by omega), if_pos (by simp [limit]; omega), if_pos c]
    simp (disch := omega) only [wr, List.take_length, Option.bind_some, List.nil_append]
    rw [show fr + (min (max frame fr) (fr + l.length - 1) - fr) = min (max frame fr) (fr + l.length - 1) by omega]
  · rw [if_neg c, if_neg c, show (min (max frame fr) (fr + l.length - 1) - fr).toNat = 0 by omega, List.drop_zero]
/-- A number within a bound. -/
def within (a n : Int) : Int := if a.tmod n < 0 then a.tmod n + n else a.tmod n
theorem within_eq (a n : Int) (h : 0 < n) (hn : n ≤ 1000000000000) : f11 a n = some (within a n, ()) ∧ 0 ≤ within a n ∧ within a n < n := by
  have h1 := Int.tmod_lt_of_pos a h
  have h2 : -n < a.tmod n := by
    have := Int.tmod_lt_of_pos (-a) h
    rw [Int.neg_tmod] at this
    omega
  unfold f11 within
  simp only [Option.bind_some, bif_dec]
  rw [if_neg (by omega)]
  split
  · simp (disch := omega) only [wr, Option.bind_some, Sum.elim_inl]
    exact ⟨trivial, by omega, by omega⟩
  · simp only [Option.bind_some, Sum.elim_inl]
    exact ⟨trivial, by omega, by omega⟩
theorem known_eq : f10 = some (true, ()) := by
  unfold f10
  rw [new_eq]
  simp only [Option.bind_some]
  rw [put0 5 [1, 2] _ (by decide) (by decide) (by decide) (by decide)]
  simp only [Option.bind_some]
  rw [put1 6 [9, 3] _ _ (by decide) (by decide) (by decide) (by decide) (by decide)]
  simp only [Option.bind_some]
  rw [get_eq _ _ 8 (by decide) (by decide) (by decide) (by decide) (by decide)]
  unfold f15
  decide
end Go.Proofs.Ytamedfccknfeaaa.Rings

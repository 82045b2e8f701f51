/- Plain law: a word of binary64 that stands for a whole number below 2^53; sums, differences and products of such words, and the way there and back, are exact. No condition beyond the bounds in each statement. -/
import Derived.Laws.FloatArith
import Derived.Laws.ComplexArith
namespace Go.Proofs.YtmffnlcmklapmaaF
open Ieee

/-- A number with its sign. -/
def sg (s : Bool) (m : Nat) : Int := if s then -(m : Int) else m
/-- 'sg s m * 2 ^ e' is n. -/
def Stands (s : Bool) (m : Nat) (e n : Int) : Prop := sg s m * 2 ^ e.toNat = n * 2 ^ (-e).toNat
/-- The word b stands for n. -/
def Rep (b : Nat) (n : Int) : Prop := ∃ s m e, Ieee.double.read b = .number s m e ∧ Stands s m e n

theorem sg_natAbs (s : Bool) (m : Nat) : (sg s m).natAbs = m := by unfold sg; split <;> simp
theorem pow_pos' (k : Nat) : (0 : Int) < 2 ^ k := Int.pow_pos (by decide)

theorem stands_abs {s : Bool} {m : Nat} {e n : Int} (h : Stands s m e n) : m * 2 ^ e.toNat = n.natAbs * 2 ^ (-e).toNat := by
  have := congrArg Int.natAbs h
  rw [Int.natAbs_mul, Int.natAbs_mul, sg_natAbs, Int.natAbs_pow, Int.natAbs_pow] at this
  exact this

theorem stands_sign {s : Bool} {m : Nat} {e n : Int} (h : Stands s m e n) : n = sg s n.natAbs := by
  have p := pow_pos' e.toNat
  have q := pow_pos' (-e).toNat
  unfold Stands at h
  unfold sg at h ⊢
  cases s
  · simp only [Bool.false_eq_true, if_false] at h ⊢
    have h1 : 0 ≤ n * 2 ^ (-e).toNat := by rw [← h]; exact Int.mul_nonneg (by omega) (by omega)
    have : 0 ≤ n := by
      rcases (by omega : n < 0 ∨ 0 ≤ n) with h2 | h2
      · have := Int.mul_neg_of_neg_of_pos h2 q
        omega
      · exact h2
    omega
  · simp only [if_true] at h ⊢
    have h1 : n * 2 ^ (-e).toNat ≤ 0 := by
      rw [← h, Int.neg_mul]
      have := Int.mul_nonneg (Int.natCast_nonneg m) (Int.le_of_lt p)
      omega
    have : n ≤ 0 := by
      rcases (by omega : 0 < n ∨ n ≤ 0) with h2 | h2
      · have := Int.mul_pos h2 q
        omega
      · exact h2
    omega

theorem log2_mul_pow {n : Nat} (hn : n ≠ 0) (j : Nat) : (n * 2 ^ j).log2 = n.log2 + j := by
  induction j with
  | zero => simp
  | succ j ih =>
    have h : n * 2 ^ j ≠ 0 := Nat.mul_ne_zero hn (Nat.ne_of_gt (Nat.two_pow_pos j))
    rw [Nat.pow_succ, ← Nat.mul_assoc, Nat.mul_comm _ 2, Nat.log2_two_mul h, ih]
    omega

theorem cut_zero_drop (way : Toward) (neg : Bool) (n : Nat) : way.cut neg n 0 = n := by
  unfold Toward.cut
  have h0 : min 0 (n.log2 + 2) = 0 := by omega
  rw [h0]
  cases way <;> simp [Nat.mod_one]

theorem cut_pow (way : Toward) (neg : Bool) {n : Nat} (hn : n ≠ 0) (d : Nat) : way.cut neg (n * 2 ^ d) d = n := by
  unfold Toward.cut
  have hl := log2_mul_pow hn d
  have h0 : min d ((n * 2 ^ d).log2 + 2) = d := by omega
  have hp := Nat.two_pow_pos d
  simp only [h0]
  have h1 : (1 <<< d : Nat) = 2 ^ d := by rw [Nat.shiftLeft_eq]; omega
  rw [h1, Nat.mul_div_cancel _ hp, Nat.mul_mod_left]
  cases way <;> simp <;> omega

/-- What is written of a whole number below 2^53 is that number. -/
theorem kept_is (m : Nat) (e : Int) (N : Nat) (hN : N ≠ 0) (hb : N < 2 ^ 53) (h : m * 2 ^ e.toNat = N * 2 ^ (-e).toNat) (neg : Bool) :
    m ≠ 0 ∧ max (e + m.log2 - 52) (-1074) = (N.log2 : Int) - 52 ∧
    Toward.even.cut neg (m <<< (e - ((N.log2 : Int) - 52)).toNat) (((N.log2 : Int) - 52) - e).toNat = N * 2 ^ (52 - N.log2) := by
  have hl : N.log2 ≤ 52 := by have := (Nat.log2_lt hN).2 hb; omega
  have hm : m ≠ 0 := by
    intro h0; subst h0
    rw [Nat.zero_mul] at h
    have := Nat.mul_ne_zero hN (Nat.ne_of_gt (Nat.two_pow_pos (-e).toNat))
    omega
  refine ⟨hm, ?_, ?_⟩
  · rcases (by omega : e < 0 ∨ 0 ≤ e) with he | he
    · have e0 : e.toNat = 0 := by omega
      rw [e0, Nat.pow_zero, Nat.mul_one] at h
      have := log2_mul_pow hN (-e).toNat
      rw [← h] at this
      omega
    · have e0 : (-e).toNat = 0 := by omega
      rw [e0, Nat.pow_zero, Nat.mul_one] at h
      have := log2_mul_pow hm e.toNat
      rw [h] at this
      omega
  · rw [Nat.shiftLeft_eq]
    rcases (by omega : e < (N.log2 : Int) - 52 ∨ (N.log2 : Int) - 52 ≤ e) with he | he
    · have e0 : (e - ((N.log2 : Int) - 52)).toNat = 0 := by omega
      have e1 : e.toNat = 0 := by omega
      rw [e1, Nat.pow_zero, Nat.mul_one] at h
      rw [e0, Nat.pow_zero, Nat.mul_one, h]
      have e2 : (-e).toNat = (52 - N.log2) + ((N.log2 : Int) - 52 - e).toNat := by omega
      rw [e2, Nat.pow_add, ← Nat.mul_assoc]
      exact cut_pow _ _ (Nat.mul_ne_zero hN (Nat.ne_of_gt (Nat.two_pow_pos _))) _
    · have e0 : ((N.log2 : Int) - 52 - e).toNat = 0 := by omega
      rw [e0, cut_zero_drop]
      rcases (by omega : e < 0 ∨ 0 ≤ e) with hz | hz
      · have e1 : e.toNat = 0 := by omega
        rw [e1, Nat.pow_zero, Nat.mul_one] at h
        rw [h, Nat.mul_assoc, ← Nat.pow_add]
        congr 2
        omega
      · have e1 : (-e).toNat = 0 := by omega
        rw [e1, Nat.pow_zero, Nat.mul_one] at h
        generalize N.log2 = L at hl he ⊢
        rw [← h, Nat.mul_assoc, ← Nat.pow_add]
        congr 2
        omega

theorem read_word (neg : Bool) (rung : Nat) (h : rung < 9218868437227405312) :
    Ieee.double.read (Ieee.double.word neg rung) = if rung < 4503599627370496 then .number neg rung (-1074) else .number neg (4503599627370496 + rung % 4503599627370496) (-1074 + (rung / 4503599627370496 - 1 : Nat)) := by
  have hb : Ieee.double.binade = 4503599627370496 := rfl
  have hs : Ieee.double.signWeight = 9223372036854775808 := rfl
  have hi : Ieee.double.infRung = 9218868437227405312 := rfl
  have hl : Ieee.double.leastPlace = -1074 := rfl
  unfold Ieee.Format.read Ieee.Format.word
  simp only [hb, hs, hi, hl]
  have h1 : (if neg = true then 9223372036854775808 + rung else rung) % 9223372036854775808 = rung := by split <;> omega
  have h2 : ((if neg = true then 9223372036854775808 + rung else rung) / 9223372036854775808 % 2 == 1) = neg := by
    cases neg
    · have : rung / 9223372036854775808 = 0 := by omega
      simp [this]
    · have : (9223372036854775808 + rung) / 9223372036854775808 = 1 := by omega
      simp [this]
  rw [h1, h2]
  simp only [h, if_true]

theorem write_rep {s : Bool} {m : Nat} {e n : Int} (h : Stands s m e n) (hb : n.natAbs < 9007199254740992) : Rep (Ieee.double.write (.number s m e)) n := by
  have hfb : Ieee.double.fractionBits = 52 := rfl
  have hbi : Ieee.double.binade = 4503599627370496 := rfl
  have hi : Ieee.double.infRung = 9218868437227405312 := rfl
  have hlp : Ieee.double.leastPlace = -1074 := rfl
  have ha := stands_abs h
  have hs := stands_sign h
  unfold Ieee.Format.write Ieee.Format.nearest
  by_cases hN : n.natAbs = 0
  · have hm : m = 0 := by
      rw [hN, Nat.zero_mul] at ha
      rcases Nat.mul_eq_zero.1 ha with h0 | h0
      · exact h0
      · exact absurd h0 (Nat.ne_of_gt (Nat.two_pow_pos _))
    simp only [hm, if_true]
    have hn : n = 0 := by omega
    subst hn
    refine ⟨s, 0, -1074, ?_, ?_⟩
    · rw [read_word _ _ (by decide), if_pos (by decide)]
    · unfold Stands sg; rw [Int.zero_mul]; split <;> simp
  · obtain ⟨hm, hlast, hkept⟩ := kept_is m e n.natAbs hN hb ha s
    have hl : n.natAbs.log2 ≤ 52 := by have := (Nat.log2_lt (k := 53) hN).2 hb; omega
    simp only [hm, if_false, hfb, hbi, hi, hlp]
    have hlast' : max (e + (m.log2 : Int) - ((52 : Nat) : Int)) (-1074) = (n.natAbs.log2 : Int) - 52 := hlast
    rw [hlast', hkept]
    generalize hK : n.natAbs * 2 ^ (52 - n.natAbs.log2) = K
    have hK1 : 4503599627370496 ≤ K := by
      rw [← hK]
      have h1 := Nat.mul_le_mul_right (2 ^ (52 - n.natAbs.log2)) (Nat.log2_self_le hN)
      rw [← Nat.pow_add, show n.natAbs.log2 + (52 - n.natAbs.log2) = 52 by omega] at h1
      exact h1
    have hK2 : K < 9007199254740992 := by
      rw [← hK]
      have h1 := (Nat.mul_lt_mul_right (Nat.two_pow_pos (52 - n.natAbs.log2))).2 (Nat.lt_log2_self (n := n.natAbs))
      rw [← Nat.pow_add, show n.natAbs.log2 + 1 + (52 - n.natAbs.log2) = 53 by omega] at h1
      exact h1
    have ht : ((n.natAbs.log2 : Int) - 52 - -1074).toNat = n.natAbs.log2 + 1022 := by omega
    rw [ht, Nat.min_eq_left (by omega)]
    refine ⟨s, K, (n.natAbs.log2 : Int) - 52, ?_, ?_⟩
    · rw [read_word _ _ (by omega), if_neg (by omega)]
      congr 1 <;> omega
    · unfold Stands
      have e0 : ((n.natAbs.log2 : Int) - 52).toNat = 0 := by omega
      have e1 : (-((n.natAbs.log2 : Int) - 52)).toNat = 52 - n.natAbs.log2 := by omega
      rw [e0, e1, Int.pow_zero, Int.mul_one, ← hK]
      conv => rhs; rw [hs]
      unfold sg
      cases s
      · simp
      · simp [Int.neg_mul]

theorem rep_int {b : Nat} {n : Int} (h : Rep b n) : ((FloatKind.f64.decode b).toInt .zero) = some n := by
  obtain ⟨s, m, e, hr, hs⟩ := h
  have ha := stands_abs hs
  have hg := stands_sign hs
  have hd : FloatKind.f64.decode b = .number s m e := hr
  rw [hd]
  unfold Ieee.Datum.toInt Ieee.Datum.integral
  have hc : Toward.zero.cut s (m <<< e.toNat) (-e).toNat = n.natAbs := by
    rw [Nat.shiftLeft_eq, ha]
    by_cases hN : n.natAbs = 0
    · rw [hN, Nat.zero_mul]
      unfold Toward.cut
      simp
    · exact cut_pow _ _ hN _
  simp only [hc]
  unfold Ieee.signed
  rw [Nat.shiftLeft_zero]
  conv => rhs; rw [hg]
  unfold sg
  rfl

theorem toInt_rep {b : Nat} {n : Int} (h : Rep b n) (h0 : -9223372036854775808 ≤ n) (h1 : n ≤ 9223372036854775807) : floatToIntVal .f64 b .i64 = some n := by
  unfold floatToIntVal
  rw [rep_int h]
  simp only
  rw [if_pos ⟨h0, h1⟩]

theorem ofInt_rep (n : Int) (hb : n.natAbs < 9007199254740992) : Rep (floatOfInt .f64 n) n := by
  have h : Stands (decide (n < 0)) n.natAbs 0 n := by
    unfold Stands sg
    simp
    split <;> omega
  exact write_rep h hb

theorem signed_sg (s : Bool) (m up : Nat) : Ieee.signed s m up = sg s m * 2 ^ up := by
  unfold Ieee.signed sg
  rw [Nat.shiftLeft_eq]
  split <;> simp [Int.neg_mul]

theorem shift_base {s : Bool} {m : Nat} {i x base : Int} (h : Stands s m i x) (hb : base ≤ i) : sg s m * 2 ^ (i - base).toNat * 2 ^ base.toNat = x * 2 ^ (-base).toNat := by
  unfold Stands at h
  rcases (by omega : base < 0 ∨ 0 ≤ base) with h0 | h0
  · have e0 : base.toNat = 0 := by omega
    rw [e0, Int.pow_zero, Int.mul_one]
    rcases (by omega : i < 0 ∨ 0 ≤ i) with h1 | h1
    · have e1 : i.toNat = 0 := by omega
      rw [e1, Int.pow_zero, Int.mul_one] at h
      rw [h, Int.mul_assoc, ← Int.pow_add]
      congr 2
      omega
    · have e1 : (-i).toNat = 0 := by omega
      rw [e1, Int.pow_zero, Int.mul_one] at h
      rw [show (i - base).toNat = i.toNat + (-base).toNat by omega, Int.pow_add, ← Int.mul_assoc, h]
  · have e0 : (-base).toNat = 0 := by omega
    have e1 : (-i).toNat = 0 := by omega
    rw [e1, Int.pow_zero, Int.mul_one] at h
    rw [e0, Int.pow_zero, Int.mul_one, Int.mul_assoc, ← Int.pow_add, show (i - base).toNat + base.toNat = i.toNat by omega, h]

theorem sg_of (t : Int) (b : Bool) (h : t ≠ 0 → b = decide (t < 0)) : sg b t.natAbs = t := by
  unfold sg
  by_cases h0 : t = 0
  · subst h0; simp
  · rw [h h0]
    by_cases h1 : t < 0
    · simp [h1]; omega
    · simp [h1]; omega

theorem sum_stands {s t : Bool} {m n : Nat} {i j x y : Int} (hx : Stands s m i x) (hy : Stands t n j y) :
    ∃ s' m' e', Ieee.Datum.sum (.number s m i) (.number t n j) = some (.number s' m' e') ∧ Stands s' m' e' (x + y) := by
  unfold Ieee.Datum.sum
  refine ⟨_, _, _, rfl, ?_⟩
  unfold Stands
  rw [sg_of _ _ (fun h => by rw [if_neg h]), signed_sg, signed_sg, Int.add_mul, shift_base hx (by omega), shift_base hy (by omega), Int.add_mul]

theorem product_stands {s t : Bool} {m n : Nat} {i j x y : Int} (hx : Stands s m i x) (hy : Stands t n j y) :
    ∃ s' m' e', Ieee.Datum.product (.number s m i) (.number t n j) = some (.number s' m' e') ∧ Stands s' m' e' (x * y) := by
  unfold Ieee.Datum.product
  refine ⟨_, _, _, rfl, ?_⟩
  have hsg : sg (s ^^ t) (m * n) = sg s m * sg t n := by
    unfold sg
    cases s <;> cases t <;> simp [Int.neg_mul, Int.mul_neg]
  have h : sg s m * 2 ^ i.toNat * (sg t n * 2 ^ j.toNat) = x * 2 ^ (-i).toNat * (y * 2 ^ (-j).toNat) := by rw [show sg s m * 2 ^ i.toNat = _ from hx, show sg t n * 2 ^ j.toNat = _ from hy]
  have h2 : sg s m * sg t n * 2 ^ (i.toNat + j.toNat) = x * y * 2 ^ ((-i).toNat + (-j).toNat) := by
    rw [Int.pow_add, Int.pow_add]
    calc sg s m * sg t n * (2 ^ i.toNat * 2 ^ j.toNat) = sg s m * 2 ^ i.toNat * (sg t n * 2 ^ j.toNat) := by ac_rfl
      _ = x * 2 ^ (-i).toNat * (y * 2 ^ (-j).toNat) := h
      _ = x * y * (2 ^ (-i).toNat * 2 ^ (-j).toNat) := by ac_rfl
  unfold Stands
  rw [hsg]
  have e1 : i.toNat + j.toNat = (i + j).toNat + (i.toNat + j.toNat - (i + j).toNat) := by omega
  have e2 : (-i).toNat + (-j).toNat = (-(i + j)).toNat + (i.toNat + j.toNat - (i + j).toNat) := by omega
  rw [e1, e2, Int.pow_add, Int.pow_add, ← Int.mul_assoc, ← Int.mul_assoc] at h2
  exact Int.eq_of_mul_eq_mul_right (Int.ne_of_gt (pow_pos' _)) h2

theorem opposite_stands {t : Bool} {n : Nat} {j y : Int} (hy : Stands t n j y) : Stands (!t) n j (-y) := by
  unfold Stands at hy ⊢
  have : sg (!t) n = -sg t n := by unfold sg; cases t <;> simp
  rw [this, Int.neg_mul, Int.neg_mul, hy]

theorem add_rep {a b : Nat} {x y : Int} (hx : Rep a x) (hy : Rep b y) (hb : (x + y).natAbs < 9007199254740992) : ∃ r, floatBits .add .f64 a b = some r ∧ Rep r (x + y) := by
  obtain ⟨s, m, i, hr, hs⟩ := hx
  obtain ⟨t, n, j, hq, ht⟩ := hy
  obtain ⟨s', m', e', hd, hst⟩ := sum_stands hs ht
  refine ⟨Ieee.double.write (.number s' m' e'), ?_, write_rep hst hb⟩
  show (((Ieee.double.read a).sum (Ieee.double.read b)).map Ieee.double.write) = _
  rw [hr, hq, hd]; rfl
theorem sub_rep {a b : Nat} {x y : Int} (hx : Rep a x) (hy : Rep b y) (hb : (x - y).natAbs < 9007199254740992) : ∃ r, floatBits .sub .f64 a b = some r ∧ Rep r (x - y) := by
  obtain ⟨s, m, i, hr, hs⟩ := hx
  obtain ⟨t, n, j, hq, ht⟩ := hy
  obtain ⟨s', m', e', hd, hst⟩ := sum_stands hs (opposite_stands ht)
  refine ⟨Ieee.double.write (.number s' m' e'), ?_, write_rep (by rw [Int.sub_eq_add_neg]; exact hst) hb⟩
  show (((Ieee.double.read a).sum (Ieee.double.read b).opposite).map Ieee.double.write) = _
  rw [hr, hq]
  show ((Ieee.Datum.sum (.number s m i) (.number (!t) n j)).map Ieee.double.write) = _
  rw [hd]; rfl
theorem mul_rep {a b : Nat} {x y : Int} (hx : Rep a x) (hy : Rep b y) (hb : (x * y).natAbs < 9007199254740992) : ∃ r, floatBits .mul .f64 a b = some r ∧ Rep r (x * y) := by
  obtain ⟨s, m, i, hr, hs⟩ := hx
  obtain ⟨t, n, j, hq, ht⟩ := hy
  obtain ⟨s', m', e', hd, hst⟩ := product_stands hs ht
  refine ⟨Ieee.double.write (.number s' m' e'), ?_, write_rep hst hb⟩
  show (((Ieee.double.read a).product (Ieee.double.read b)).map Ieee.double.write) = _
  rw [hr, hq, hd]; rfl

theorem rep_zero : Rep 0 0 := ⟨false, 0, -1074, by decide +kernel, by unfold Stands sg; rw [Int.zero_mul]; simp only [Bool.false_eq_true, if_false]; rw [Int.natCast_zero, Int.zero_mul]⟩
theorem rep_one : Rep 4607182418800017408 1 := by
  have h : floatOfInt .f64 1 = 4607182418800017408 := by decide +kernel
  rw [← h]; exact ofInt_rep 1 (by decide)
theorem rep_neg_one : Rep 13830554455654793216 (-1) := by
  have h : floatOfInt .f64 (-1) = 13830554455654793216 := by decide +kernel
  rw [← h]; exact ofInt_rep (-1) (by decide)

/-- A quarter: '(x + y i) * 1i'. -/
theorem quarter {a b : Nat} {x y : Int} (hx : Rep a x) (hy : Rep b y) (hbx : x.natAbs < 9007199254740992) (hby : y.natAbs < 9007199254740992) :
    ∃ re im, cMulBits a b 0 4607182418800017408 = some (re, im) ∧ Rep re (-y) ∧ Rep im x := by
  obtain ⟨ac, h1, r1⟩ := mul_rep hx rep_zero (by simp)
  obtain ⟨bd, h2, r2⟩ := mul_rep hy rep_one (by simpa using hby)
  obtain ⟨re, h3, r3⟩ := sub_rep r1 r2 (by simp; omega)
  obtain ⟨ad, h4, r4⟩ := mul_rep hx rep_one (by simpa using hbx)
  obtain ⟨bc, h5, r5⟩ := mul_rep hy rep_zero (by simp)
  obtain ⟨im, h6, r6⟩ := add_rep r4 r5 (by simpa using hbx)
  refine ⟨re, im, ?_, ?_, ?_⟩
  · unfold cMulBits
    simp only [h1, h2, h3, h4, h5, h6, Option.bind_some]
  · simpa using r3
  · simpa using r6
/-- A sum of two places. -/
theorem places {a b c d : Nat} {x y u v : Int} (hx : Rep a x) (hy : Rep b y) (hu : Rep c u) (hv : Rep d v) (h1 : (x + u).natAbs < 9007199254740992) (h2 : (y + v).natAbs < 9007199254740992) :
    ∃ re im, cSumBits .add .f64 a b c d = some (re, im) ∧ Rep re (x + u) ∧ Rep im (y + v) := by
  obtain ⟨re, e1, r1⟩ := add_rep hx hu h1
  obtain ⟨im, e2, r2⟩ := add_rep hy hv h2
  exact ⟨re, im, by unfold cSumBits; simp only [e1, e2, Option.bind_some], r1, r2⟩
end Go.Proofs.YtmffnlcmklapmaaF

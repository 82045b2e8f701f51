/- The law ChunkRounds, in plain words (own work): the pieces that were not heard of are told in a ring. -/
import Derived.Test.YtjgodjdojifpoaaChunkLaw
namespace Go.Proofs.Ytjgodjdojifpoaa.Pure
open Go Go.Proofs.Ytjgodjdojifpoaa.Mx Go.Proofs.Ytjgodjdojifpoaa.Pc Go.Proofs.Ytjgodjdojifpoaa.Run Go.Proofs.Ytjgodjdojifpoaa.Chunk
set_option linter.unusedVariables false
set_option linter.unusedSimpArgs false
set_option maxHeartbeats 1000000
/-- How many of the first p pieces were not heard of. -/
def miss (h : List Bool) : Nat → Nat
  | 0 => 0
  | p + 1 => miss h p + (if h.getD p false = false then 1 else 0)
theorem miss_mono (h : List Bool) {p q : Nat} (hpq : p ≤ q) : miss h p ≤ miss h q := by
  induction q with
  | zero =>
    have : p = 0 := by omega
    rw [this]; exact Nat.le_refl _
  | succ q ih =>
    by_cases e : p = q + 1
    · rw [e]; exact Nat.le_refl _
    · have := ih (by omega)
      rw [show miss h (q + 1) = miss h q + (if h.getD q false = false then 1 else 0) from rfl]
      omega
theorem miss_succ (h : List Bool) (p : Nat) : miss h (p + 1) = miss h p + (if h.getD p false = false then 1 else 0) := rfl
def cn (out : List Int) (i : Nat) : Nat := out.countP fun x => x == (i : Int)
theorem cn_snoc (out : List Int) (p i : Nat) : cn (out ++ [(p : Int)]) i = cn out i + if i = p then 1 else 0 := by
  unfold cn
  rw [List.countP_append, List.countP_singleton]
  by_cases e : i = p
  · subst e
    simp
  · rw [if_neg e]
    have : ((p : Int) == (i : Int)) = false := by rw [beq_eq_false_iff_ne]; omega
    rw [this]; rfl
/-- Where the ring stands: what was told so often, and once more ahead of the place. -/
structure Ring (h : List Bool) (a : Nat) (c T : Nat) (seen : Nat → Nat) : Prop where
  lt : a < h.length
  all : ∀ i, i < h.length → h.getD i false = false → seen i = c + if i < a then 1 else 0
  sum : T = c * miss h h.length + miss h a
theorem mod_is {a k n : Nat} (ha : a < n) (hk : k < n) : (a + k) % n = if a + k < n then a + k else a + k - n := by
  by_cases q : a + k < n
  · rw [if_pos q, Nat.mod_eq_of_lt q]
  · rw [if_neg q, Nat.mod_eq_sub_mod (by omega), Nat.mod_eq_of_lt (by omega)]
/-- How many were missing among the first k that are looked at. -/
def seenU (h : List Bool) (a k : Nat) : Nat := if a + k ≤ h.length then miss h (a + k) - miss h a else miss h h.length - miss h a + miss h (a + k - h.length)
theorem seenU_succ (h : List Bool) {a k : Nat} (ha : a < h.length) (hk : k < h.length) : seenU h a (k + 1) = seenU h a k + if h.getD ((a + k) % h.length) false = false then 1 else 0 := by
  rw [mod_is ha hk]
  unfold seenU
  by_cases q : a + k < h.length
  · rw [if_pos (by omega), if_pos (by omega), if_pos q, ← Nat.add_assoc, miss_succ]
    have := miss_mono h (p := a) (q := a + k) (by omega)
    omega
  · rw [if_neg (by omega), if_neg q]
    by_cases e : a + k = h.length
    · rw [if_pos (by omega), e, show a + (k + 1) - h.length = 0 + 1 by omega, miss_succ, Nat.sub_self]
      show _ - _ + (0 + _) = _
      omega
    · rw [if_neg (by omega), show a + (k + 1) - h.length = (a + k - h.length) + 1 by omega, miss_succ]
      omega
theorem next_ring {h : List Bool} {w a c T : Nat} {seen : Nat → Nat} (hw : 1 ≤ w) (hR : Ring h a c T seen) : ∀ k, k ≤ h.length →
    ∃ p : Nat, ((List.range k).foldl (Chunk.look (w : Int) a h) ((a : Int), [])).1 = p ∧
      ((List.range k).foldl (Chunk.look (w : Int) a h) ((a : Int), [])).2.length = min w (seenU h a k) ∧
      (((List.range k).foldl (Chunk.look (w : Int) a h) ((a : Int), [])).2.length < w → ∀ i, i < h.length → h.getD i false = false → cn ((List.range k).foldl (Chunk.look (w : Int) a h) ((a : Int), [])).2 i = if (a ≤ i ∧ i < a + k) ∨ i + h.length < a + k then 1 else 0) ∧
      (∃ c', Ring h p c' (T + ((List.range k).foldl (Chunk.look (w : Int) a h) ((a : Int), [])).2.length) fun i => seen i + cn ((List.range k).foldl (Chunk.look (w : Int) a h) ((a : Int), [])).2 i) ∧
      (∀ x ∈ ((List.range k).foldl (Chunk.look (w : Int) a h) ((a : Int), [])).2, ∃ i : Nat, x = i ∧ i < h.length ∧ h.getD i false = false)
  | 0, _ => by
    refine ⟨a, rfl, ?_, fun _ i hi hh => ?_, ⟨c, ?_⟩, fun x hx => by cases hx⟩
    · show 0 = _
      unfold seenU
      have := hR.lt
      rw [if_pos (by omega)]
      simp
    · show 0 = _
      have := hR.lt
      rw [if_neg (by omega)]
    · exact ⟨hR.lt, fun i hi hh => by show seen i + 0 = _; rw [Nat.add_zero]; exact hR.all i hi hh, hR.sum⟩
  | k + 1, hk => by
    obtain ⟨p, h1, h2, h3, ⟨c', h4⟩, h5⟩ := next_ring hw hR k (by omega)
    have e : (List.range (k + 1)).foldl (Chunk.look (w : Int) a h) ((a : Int), []) = Chunk.look (w : Int) a h ((List.range k).foldl (Chunk.look (w : Int) a h) ((a : Int), [])) k := by rw [List.range_succ, List.foldl_append]; rfl
    rw [e]
    generalize (List.range k).foldl (Chunk.look (w : Int) a h) ((a : Int), []) = r at *
    have hs := seenU_succ h hR.lt (k := k) (by omega)
    have hm := mod_is hR.lt (k := k) (by omega)
    have hml : (a + k) % h.length < h.length := Nat.mod_lt _ (by have := hR.lt; omega)
    have ha := hR.lt
    by_cases room : r.2.length < w
    · cases hq : h.getD ((a + k) % h.length) false with
      | false =>
        have el : Chunk.look (w : Int) a h r k = (((((a + k) % h.length + 1) % h.length : Nat) : Int), r.2 ++ [(((a + k) % h.length : Nat) : Int)]) := if_pos ⟨by omega, hq⟩
        rw [el]
        dsimp only
        rw [hq, if_pos rfl] at hs
        have hall := h3 room
        generalize (a + k) % h.length = q at *
        refine ⟨_, rfl, ?_, fun _ i hi hh => ?_, ?_, fun x hx => ?_⟩
        · rw [List.length_append, h2]
          simp only [List.length_cons, List.length_nil]
          omega
        · rw [cn_snoc, hall i hi hh]
          split at hm
          · subst hm
            by_cases e1 : i = a + k
            · subst e1
              rw [if_neg (by omega), if_pos rfl, if_pos (by omega)]
            · rw [if_neg e1]
              by_cases e2 : (a ≤ i ∧ i < a + k) ∨ i + h.length < a + k
              · rw [if_pos e2, if_pos (by omega)]
              · rw [if_neg e2, if_neg (by omega)]
          · by_cases e1 : i = q
            · subst e1
              rw [if_neg (by omega), if_pos rfl, if_pos (by omega)]
            · rw [if_neg e1]
              by_cases e2 : (a ≤ i ∧ i < a + k) ∨ i + h.length < a + k
              · rw [if_pos e2, if_pos (by omega)]
              · rw [if_neg e2, if_neg (by omega)]
        · have hlen : r.2.length = seenU h a k := by omega
          have hmn := miss_mono h (p := a) (q := h.length) (by omega)
          have hsum := hR.sum
          split at hm
          · rename_i nw
            subst hm
            have hU : seenU h a k = miss h (a + k) - miss h a := by unfold seenU; rw [if_pos (by omega)]
            have hmk := miss_mono h (p := a) (q := a + k) (by omega)
            have hms : miss h (a + k + 1) = miss h (a + k) + 1 := by rw [miss_succ, hq, if_pos rfl]
            by_cases e1 : a + k + 1 = h.length
            · refine ⟨c + 1, ⟨by rw [e1, Nat.mod_self]; omega, fun i hi hh => ?_, ?_⟩⟩
              · try dsimp only
                rw [cn_snoc, hall i hi hh, hR.all i hi hh, e1, Nat.mod_self, if_neg (Nat.not_lt_zero i)]
                by_cases e2 : i < a
                · rw [if_pos e2, if_neg (by omega), if_neg (by omega)]
                · rw [if_neg e2]
                  by_cases e3 : i = a + k
                  · rw [if_neg (by omega), if_pos e3]
                  · rw [if_pos (by omega), if_neg e3]
              · rw [e1, Nat.mod_self, List.length_append, hlen, hU, hsum]
                simp only [List.length_cons, List.length_nil]
                rw [e1] at hms
                have : miss h 0 = 0 := rfl
                rw [this, Nat.add_mul, Nat.one_mul]
                omega
            · refine ⟨c, ⟨Nat.mod_lt _ (by omega), fun i hi hh => ?_, ?_⟩⟩
              · try dsimp only
                rw [cn_snoc, hall i hi hh, hR.all i hi hh, Nat.mod_eq_of_lt (by omega)]
                by_cases e2 : i < a
                · rw [if_pos e2, if_neg (by omega), if_neg (by omega), if_pos (by omega)]
                · rw [if_neg e2]
                  by_cases e3 : i = a + k
                  · rw [if_neg (by omega), if_pos e3, if_pos (by omega)]
                  · by_cases e4 : i < a + k
                    · rw [if_pos (by omega), if_neg e3, if_pos (by omega)]
                    · rw [if_neg (by omega), if_neg e3, if_neg (by omega)]
              · rw [Nat.mod_eq_of_lt (by omega), List.length_append, hlen, hU, hsum]
                simp only [List.length_cons, List.length_nil]
                omega
          · rename_i nw
            have hU : seenU h a k = miss h h.length - miss h a + miss h q := by
              unfold seenU
              by_cases e0 : a + k = h.length
              · rw [if_pos (by omega), e0]
                have : q = 0 := by omega
                rw [this]; rfl
              · rw [if_neg (by omega), hm]
            have hms : miss h (q + 1) = miss h q + 1 := by rw [miss_succ, hq, if_pos rfl]
            refine ⟨c + 1, ⟨Nat.mod_lt _ (by omega), fun i hi hh => ?_, ?_⟩⟩
            · try dsimp only
              rw [cn_snoc, hall i hi hh, hR.all i hi hh, Nat.mod_eq_of_lt (by omega)]
              by_cases e3 : i = q
              · rw [if_pos e3, if_pos (by omega), if_neg (by omega), if_pos (by omega)]
              · rw [if_neg e3]
                by_cases e2 : i < a
                · rw [if_pos e2]
                  by_cases e4 : i < q
                  · rw [if_pos (by omega), if_pos (by omega)]
                  · rw [if_neg (by omega), if_neg (by omega)]
                · rw [if_neg e2, if_pos (by omega), if_neg (by omega)]
            · rw [Nat.mod_eq_of_lt (by omega), List.length_append, hlen, hU, hsum]
              simp only [List.length_cons, List.length_nil]
              rw [Nat.add_mul, Nat.one_mul]
              omega
        · rcases List.mem_append.1 hx with y | y
          · exact h5 x y
          · exact ⟨q, by simpa using y, hml, hq⟩
      | true =>
        have el : Chunk.look (w : Int) a h r k = r := if_neg (by rw [hq]; simp)
        rw [el]
        rw [hq, if_neg (by decide)] at hs
        refine ⟨p, h1, by omega, fun rm i hi hh => ?_, ⟨c', h4⟩, h5⟩
        rw [h3 rm i hi hh]
        have ne : i ≠ (a + k) % h.length := fun z => by rw [z, hq] at hh; cases hh
        rw [hm] at ne
        split at ne
        · by_cases e2 : (a ≤ i ∧ i < a + k) ∨ i + h.length < a + k
          · rw [if_pos e2, if_pos (by omega)]
          · rw [if_neg e2, if_neg (by omega)]
        · by_cases e2 : (a ≤ i ∧ i < a + k) ∨ i + h.length < a + k
          · rw [if_pos e2, if_pos (by omega)]
          · rw [if_neg e2, if_neg (by omega)]
    · have el : Chunk.look (w : Int) a h r k = r := if_neg (by omega)
      rw [el]
      refine ⟨p, h1, ?_, fun rm => absurd rm room, ⟨c', h4⟩, h5⟩
      rw [h2] at room ⊢
      split at hs <;> omega
theorem bit_v (b : Int) (i : Nat) : IntKind.wrap .u32 ((((BitVec.ofInt (IntKind.bits .u32) (Int.fdiv b (2 ^ min i (IntKind.bits .u32)))) &&& (BitVec.ofInt (IntKind.bits .u32) 1)).toNat : Nat) : Int) = if bit b i then 1 else 0 := by
  unfold bit
  have h0 : (((BitVec.ofInt (IntKind.bits .u32) (Int.fdiv b (2 ^ min i (IntKind.bits .u32)))) &&& (BitVec.ofInt (IntKind.bits .u32) 1)).toNat : Nat) ≤ 1 := by
    rw [BitVec.toNat_and]
    exact Nat.le_trans Nat.and_le_right (by decide)
  generalize (((BitVec.ofInt (IntKind.bits .u32) (Int.fdiv b (2 ^ min i (IntKind.bits .u32)))) &&& (BitVec.ofInt (IntKind.bits .u32) 1)).toNat : Nat) = v at *
  have : v = 0 ∨ v = 1 := by omega
  rcases this with rfl | rfl <;> rfl
theorem ChunkRounds (a0 : Int) (w0 : (Lit.int .i64 a0).wf = true) (a1 : Int) (w1 : (Lit.int .i64 a1).wf = true) (a2 : Int) (w2 : (Lit.int .u32 a2).wf = true) : f3 a0 a1 a2 = some (true, ()) := by
  have b0 := within_b a0 16 (by decide)
  have b1 := within_b a1 8 (by decide)
  refine OK.eq ?_
  unfold f3
  rw [known_eq]
  simp only [Option.bind_some, Bool.not_true, cond_false]
  rw [Chunk.within_eq _ _ (by decide) (by decide)]
  simp only [Option.bind_some]
  rw [Chunk.within_eq _ _ (by decide) (by decide)]
  simp only [Option.bind_some]
  rw [wr (x := 1 + within a0 16) (by omega), wr (x := 1 + within a1 8) (by omega), new_eq, if_pos (by omega)]
  simp only [Option.bind_some, Sum.elim_inr, bne_self_eq_false, cond_false]
  obtain ⟨n, en⟩ : ∃ n : Nat, 1 + within a0 16 = n := ⟨(1 + within a0 16).toNat, by omega⟩
  obtain ⟨w, ew⟩ : ∃ w : Nat, 1 + within a1 8 = w := ⟨(1 + within a1 8).toNat, by omega⟩
  rw [en, ew, Int.toNat_natCast]
  have hn1 : 1 ≤ n := by omega
  have hn2 : n ≤ 16 := by omega
  have hw1 : 1 ≤ w := by omega
  have hw2 : w ≤ 8 := by omega
  rw [ack_eq _ _ _ (by rw [List.length_replicate]; omega)]
  simp only [Option.bind_some]
  rw [decide_eq_true (by simp [limit]; omega), cond_true, List.length_replicate]
  have hlen := acked_len a2 (List.replicate n false) n
  have hget : ∀ i, i < n → (acked a2 (List.replicate n false) n).getD i false = bit a2 i := fun i hi => by
    rw [acked_get _ _ _ _ (by rw [List.length_replicate]; exact Nat.le_refl _), if_pos hi, List.getD_eq_getElem?_getD, List.getElem?_replicate, if_pos hi]
    rfl
  rw [List.length_replicate] at hlen
  generalize acked a2 (List.replicate n false) n = h at *
  -- what is missing is counted
  unfold f3.L4
  refine OK.loop (fun i : Nat => ((n : Int), (w : Int), a2, ((miss h i : Nat) : Int), (i : Int), 0, List.replicate n 0, h, ())) (fun i => i ≤ n) (fun i => n - i) (fun rec i hi ih => ?_) 0 rfl (Nat.zero_le _) (by omega)
  have hmi : miss h i ≤ i := by
    clear ih hi
    induction i with
    | zero => exact Nat.le_refl _
    | succ i ih => rw [miss_succ]; split <;> omega
  dsimp only
  rw [bif_dec]
  by_cases q : i < n
  · have go := ih (i + 1) (by omega) (by omega) _ rfl
    rw [miss_succ, hget i q] at go
    rw [if_pos (by omega), bif_dec, if_neg (by omega), Int.toNat_natCast, bit_v, wr (x := (i : Int) + 1) (by omega), wr (by omega)]
    cases hb : bit a2 i with
    | true =>
      rw [hb] at go
      exact go
    | false =>
      rw [hb] at go
      exact go
  have ei : i = n := by omega
  subst ei
  rw [if_neg (by omega)]
  clear ih hi q
  have hL : miss h i = miss h h.length := by rw [hlen]
  rw [hL] at hmi ⊢
  generalize hLdef : miss h h.length = left at *
  -- the rounds
  unfold f3.L3
  have hR0 : Ring h 0 0 0 fun _ => 0 := ⟨by omega, fun j _ _ => by simp, by simp [miss]⟩
  refine OK.loop (fun j : Nat × Nat × List Int => ((i : Int), (w : Int), a2, (left : Int), (j.1 : Int), (j.2.1 : Int), j.2.2, h, ())) (fun j => j.1 ≤ 16 ∧ (j.1 = 0 ∨ (j.1 - 1) * w < left) ∧ j.2.2.length = i ∧ (∃ c, Ring h j.2.1 c (j.1 * min w left) fun p => (j.2.2.getD p 0).toNat) ∧ (∀ p, 0 ≤ j.2.2.getD p 0 ∧ j.2.2.getD p 0 ≤ 16 * j.1) ∧ (∀ p, p < i → h.getD p false = true → j.2.2.getD p 0 = 0)) (fun j => 20 - j.1) (fun rec j hj ih => ?_) (0, 0, List.replicate i 0) rfl ⟨by dsimp only; omega, .inl rfl, List.length_replicate, ⟨0, by
    have e : (fun p : Nat => ((List.replicate i (0 : Int)).getD p 0).toNat) = fun _ => 0 := funext fun p => by
      rw [List.getD_eq_getElem?_getD, List.getElem?_replicate]
      split <;> rfl
    dsimp only
    rw [e, Nat.zero_mul]
    exact hR0⟩, fun p => by
      dsimp only
      rw [List.getD_eq_getElem?_getD, List.getElem?_replicate]
      split <;> simp, fun p _ _ => by
      dsimp only
      rw [List.getD_eq_getElem?_getD, List.getElem?_replicate]
      split <;> rfl⟩ (by dsimp only; omega)
  obtain ⟨k, a, seen⟩ := j
  obtain ⟨hk, hkl, hsl, ⟨c, hRg⟩, hsb, hsh⟩ := hj
  dsimp only at hk hkl hsl hRg hsb hsh ih ⊢
  have hkw : k * w ≤ 16 * 8 := Nat.mul_le_mul hk hw2
  have ekw : (k : Int) * (w : Int) = ((k * w : Nat) : Int) := by rw [Int.natCast_mul]
  rw [ekw, wr (by omega), bif_dec]
  have hal : a < h.length := hRg.lt
  have hne := next_eq (w : Int) a h hal (by omega)
  obtain ⟨p, n1, n2, _, ⟨c', n4⟩, n5⟩ := next_ring hw1 hRg h.length (Nat.le_refl _)
  have hU : seenU h a h.length = left := by
    unfold seenU
    have := miss_mono h (p := a) (q := h.length) (by omega)
    by_cases e : a = 0
    · subst e
      rw [if_pos (by omega), Nat.zero_add, hLdef]
      show left - 0 = left
      omega
    · rw [if_neg (by omega), Nat.add_sub_cancel, hLdef]
      omega
  have enext : (List.range h.length).foldl (Chunk.look (w : Int) a h) ((a : Int), []) = Chunk.next (w : Int) a h := rfl
  rw [enext] at n1 n2 n4 n5
  rw [hU] at n2
  by_cases q1 : ((k * w : Nat) : Int) < (left : Int)
  · rw [if_pos q1, hne]
    simp only [Option.bind_some]
    generalize Chunk.next (w : Int) a h = r at *
    unfold f3.L1
    refine OK.loop (fun j : Nat × List Int => ((i : Int), (w : Int), a2, (left : Int), (k : Int), (j.1 : Int), r.1, j.2, r.2, h, ())) (fun j => j.1 ≤ r.2.length ∧ j.2.length = i ∧ ∀ p, p < i → j.2.getD p 0 = seen.getD p 0 + (cn (r.2.take j.1) p : Nat)) (fun j => r.2.length - j.1) (fun rec' j hj ih' => ?_) (0, seen) rfl ⟨Nat.zero_le _, hsl, fun p _ => by simp [cn]⟩ (by dsimp only; omega)
    obtain ⟨t, sn⟩ := j
    obtain ⟨ht, hsn, hsg⟩ := hj
    dsimp only at ht hsn hsg ih' ⊢
    rw [bif_dec]
    by_cases q2 : t < r.2.length
    · have hmem : r.2.getD t 0 ∈ r.2 := by
        rw [List.getD_eq_getElem?_getD, List.getElem?_eq_getElem q2]
        exact List.getElem_mem _
      obtain ⟨u, hu, hu1, hu2⟩ := n5 _ hmem
      have hcu := hsg u (by omega)
      have hbu := hsb u
      have hcl : cn (r.2.take t) u ≤ 16 := by
        have h1 : cn (r.2.take t) u ≤ (r.2.take t).length := List.countP_le_length
        rw [List.length_take] at h1
        omega
      have htk : r.2.take (t + 1) = r.2.take t ++ [(u : Int)] := by
        rw [List.take_add_one, ← hu, List.getD_eq_getElem?_getD, List.getElem?_eq_getElem q2]; rfl
      rw [if_pos (by omega), inR (by omega), cond_true, Int.toNat_natCast, hu, inR (by omega), cond_true, cond_true, Int.toNat_natCast, wr (x := (t : Int) + 1) (by omega), wr (by omega)]
      refine ih' (t + 1, sn.set u (sn.getD u 0 + 1)) ⟨by dsimp only; omega, by dsimp only; rw [List.length_set]; exact hsn, fun p hp => ?_⟩ (by dsimp only; omega) _ rfl
      dsimp only
      rw [getD_set, htk, cn_snoc]
      by_cases e : u = p
      · subst e
        rw [if_pos ⟨rfl, by omega⟩, if_pos rfl, hcu]
        omega
      · rw [if_neg (fun z => e z.1), if_neg (fun z => e z.symm), hsg p hp]
        omega
    · have et : t = r.2.length := by omega
      rw [et, List.take_length] at hsg
      have e1 : minI (w : Int) (left : Int) = ((min w left : Nat) : Int) := by rw [minI_eq]; omega
      have e2 : ((r.2.length : Int) != minI (w : Int) (left : Int)) = false := by
        rw [e1, n2]; simp
      rw [if_neg (by omega), e2, cond_false, n1, wr (by omega)]
      have hk15 : k < 16 := by
        have : k * 1 ≤ k * w := Nat.mul_le_mul_left k hw1
        omega
      refine ih (k + 1, p, sn) ⟨by dsimp only; omega, .inr (by dsimp only; rw [Nat.add_sub_cancel]; omega), hsn, ⟨c', ?_⟩, fun y => ?_, fun y hy hyh => ?_⟩ (by dsimp only; omega) _ rfl
      · dsimp only
        have e3 : (k + 1) * min w left = k * min w left + r.2.length := by rw [n2, Nat.add_mul, Nat.one_mul]
        rw [e3]
        refine ⟨n4.lt, fun y hy hyh => ?_, n4.sum⟩
        have := n4.all y hy hyh
        have hg := hsg y (by omega)
        have hb := hsb y
        try dsimp only at this ⊢
        rw [hg]
        omega
      · dsimp only
        by_cases hy : y < i
        · have hg := hsg y hy
          have hb := hsb y
          have hcl : cn r.2 y ≤ 16 := by
            have h1 : cn r.2 y ≤ r.2.length := List.countP_le_length
            omega
          rw [hg]
          omega
        · rw [List.getD_eq_getElem?_getD, List.getElem?_eq_none (by omega)]
          show 0 ≤ (0 : Int) ∧ (0 : Int) ≤ _
          omega
      · dsimp only
        rw [hsg y hy, hsh y hy hyh]
        have : cn r.2 y = 0 := by
          unfold cn
          rw [List.countP_eq_zero]
          intro x hx
          obtain ⟨u, hu, hu1, hu2⟩ := n5 x hx
          rw [hu]
          intro z
          have z' := beq_iff_eq.1 z
          have : u = y := by omega
          rw [this, hyh] at hu2
          cases hu2
        rw [this]; rfl
  · rw [if_neg q1]
    clear ih
    -- the end
    have fin : ∀ p, p < i → h.getD p false = false → 1 ≤ seen.getD p 0 ∧ seen.getD p 0 ≤ 2 := fun y hy hyh => by
      have hall := hRg.all y (by omega) hyh
      have hsum := hRg.sum
      have hb := hsb y
      have hpos : 1 ≤ left := by
        have := miss_mono h (p := y + 1) (q := h.length) (by omega)
        rw [miss_succ, hyh, if_pos rfl] at this
        omega
      have hma := miss_mono h (p := a) (q := h.length) (by omega)
      have hk1 : k ≠ 0 := fun z => by
        rw [z, Nat.zero_mul] at q1
        omega
      rcases hkl with z | z
      · exact absurd z hk1
      · have ek : k * w = (k - 1) * w + w := by
          obtain ⟨m, rfl⟩ : ∃ m, k = m + 1 := ⟨k - 1, by omega⟩
          rw [Nat.add_sub_cancel, Nat.add_mul, Nat.one_mul]
        have T1 : left ≤ k * min w left ∧ k * min w left < 2 * left := by
          by_cases e : w < left
          · rw [Nat.min_eq_left (by omega)]
            omega
          · rw [Nat.min_eq_right (by omega)]
            have : k = 1 := by
              have : (k - 1) * 1 ≤ (k - 1) * w := Nat.mul_le_mul_left _ hw1
              by_cases e2 : k - 1 = 0
              · omega
              · have : 1 * w ≤ (k - 1) * w := Nat.mul_le_mul_right _ (by omega)
                omega
            subst this
            omega
        rw [hLdef] at hsum
        try dsimp only at hall
        by_cases c0 : c = 0
        · subst c0
          rw [Nat.zero_mul, Nat.zero_add] at hsum
          have hm2 : miss h a = left := by omega
          have hya : y < a := Decidable.byContradiction fun z => by
            have := miss_mono h (p := a) (q := y) (by omega)
            have h2 := miss_mono h (p := y + 1) (q := h.length) (by omega)
            rw [miss_succ, hyh, if_pos rfl] at h2
            omega
          rw [if_pos hya] at hall
          omega
        · by_cases c1 : c = 1
          · subst c1
            split at hall <;> omega
          · have : 2 * left ≤ c * left := Nat.mul_le_mul_right _ (by omega)
            omega
    unfold f3.L2
    refine OK.loop (fun t : Nat => ((i : Int), (w : Int), a2, (left : Int), (t : Int), (a : Int), seen, h, ())) (fun t => t ≤ i) (fun t => i - t) (fun rec t ht ih => ?_) 0 rfl (Nat.zero_le _) (by omega)
    dsimp only
    rw [bif_dec]
    by_cases q3 : t < i
    · have go := ih (t + 1) (by omega) (by omega) _ rfl
      have hgt := hget t q3
      have ir : inRange (t : Int) seen.length = true := inR (by omega)
      rw [if_pos (by omega), bif_dec, if_neg (by omega), Int.toNat_natCast, bit_v, wr (by omega)]
      simp only [ir, cond_true]
      cases hb : bit a2 t with
      | true =>
        have hz := hsh t q3 (by rw [hgt, hb])
        rw [if_pos rfl, beq_self_eq_true, cond_true, hz]
        rw [show decide ((0 : Int) > 0) = false from rfl, cond_false]
        simp only [Bool.not_true, cond_false]
        exact go
      | false =>
        have hz := fin t q3 (by rw [hgt, hb])
        have e0 : ((if false = true then (1 : Int) else 0) == 1) = false := rfl
        rw [e0, cond_false, Bool.not_false, cond_true, bif_dec, if_neg (by omega), bif_dec, if_neg (by omega)]
        exact go
    · rw [if_neg (by omega), done_eq h (a : Int) (by omega)]
      simp only [Option.bind_some]
      have hall : Chunk.all h = ((left : Int) == 0) := by
        by_cases z : left = 0
        · rw [z]
          have : Chunk.all h = true := all_true fun y hy => by
            cases e : h.getD y false with
            | true => rfl
            | false =>
              have := miss_mono h (p := y + 1) (q := h.length) (by omega)
              rw [miss_succ, e, if_pos rfl] at this
              omega
          rw [this]; rfl
        · have : ((left : Int) == 0) = false := by rw [beq_eq_false_iff_ne]; omega
          rw [this]
          cases e : Chunk.all h with
          | false => rfl
          | true =>
            exfalso
            have hno : ∀ y, y ≤ h.length → miss h y = 0 := by
              intro y
              induction y with
              | zero => intro _; rfl
              | succ y ihy =>
                intro hy
                rw [miss_succ, ihy (by omega)]
                have : h.getD y false = true := by
                  cases e2 : h.getD y false with
                  | true => rfl
                  | false => rw [getD_false (by omega) e2] at e; cases e
                rw [this]; rfl
            have := hno h.length (Nat.le_refl _)
            omega
      rw [hall, beq_self_eq_true, cond_true, bif_dec]
      by_cases z : (left : Int) > 0
      · rw [if_pos z]
        exact OK.ret rfl
      · have : min w left = 0 := by omega
        rw [if_neg z, hne]
        simp only [Option.bind_some]
        rw [n2, this]
        exact OK.ret rfl
end Go.Proofs.Ytjgodjdojifpoaa.Pure

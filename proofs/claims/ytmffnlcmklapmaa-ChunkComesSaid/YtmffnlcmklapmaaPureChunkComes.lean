/- The law ChunkComes, in plain words (own work): each round that is heard, and of which not all is lost, brings a piece. -/
import Derived.Test.YtmffnlcmklapmaaTaker
namespace Go.Proofs.Ytmffnlcmklapmaa.Tkr
open Go Go.Proofs.Ytmffnlcmklapmaa.Mx Go.Proofs.Ytmffnlcmklapmaa.Pc Go.Proofs.Ytmffnlcmklapmaa.Run Go.Proofs.Ytmffnlcmklapmaa.Chunk
set_option linter.unusedVariables false
set_option linter.unusedSimpArgs false
set_option maxHeartbeats 1000000
set_option maxRecDepth 4000
/-- The first k pieces. -/
def cutN (l : List Int) (k : Nat) : List (List Int) := (List.range k).map fun i => (l.drop (64 * i)).take 64
theorem cutN_succ (l : List Int) (k : Nat) : cutN l (k + 1) = cutN l k ++ [(l.drop (64 * k)).take 64] := by
  unfold cutN
  rw [List.range_succ, List.map_append]
  rfl
theorem cutN_len (l : List Int) (k : Nat) : (cutN l k).length = k := by simp [cutN]
theorem cutN_flat (l : List Int) : ∀ k, (cutN l k).flatten = l.take (64 * k)
  | 0 => by simp [cutN]
  | k + 1 => by
    rw [cutN_succ, List.flatten_append, cutN_flat l k, Nat.mul_succ, List.take_add]
    simp
theorem cutN_getD (l : List Int) {k i : Nat} (h : i < k) : (cutN l k).getD i [] = (l.drop (64 * i)).take 64 := by
  simp [cutN, List.getD_eq_getElem?_getD, h]
theorem split_is (l : List Int) (hl : l.length ≤ 1024) : ∃ p : Nat, f15 l = some (0, cutN l (p + 1), ()) ∧ (p = 0 ∨ 64 * p < l.length) ∧ l.length ≤ 64 * (p + 1) := by
  have main : OK (f15 l) fun y => ∃ p : Nat, y = (0, cutN l (p + 1), ()) ∧ (p = 0 ∨ 64 * p < l.length) ∧ l.length ≤ 64 * (p + 1) := by
    unfold f15 f15.L1
    simp only [bif_cl]
    rw [if_neg (by omega)]
    refine OK.loop (fun i : Nat => (l.drop (64 * i), cutN l i, ())) (fun i => i = 0 ∨ 64 * i < l.length) (fun i => 20 - i) (fun rec i hi ih => ?_) 0 rfl (.inl rfl) (by decide)
    have hd : (l.drop (64 * i)).length = l.length - 64 * i := List.length_drop
    have cl := cutN_len l i
    simp only
    by_cases c : ((l.drop (64 * i)).length : Int) > 64
    · have e1 : f20 (List.drop 0 (List.take 64 (l.drop (64 * i)))) = some ((l.drop (64 * i)).take 64, ()) := by
        unfold f20 cloneF
        rw [decide_eq_true (by simp [limit]; omega)]
        rfl
      rw [if_pos c, if_pos (by omega), e1]
      simp only [Option.bind_some]
      rw [if_pos (by simp [limit]; omega), if_pos (by omega), List.take_length]
      refine ih (i + 1) (.inr (by omega)) (by omega) _ ?_
      rw [cutN_succ, List.drop_drop, Nat.mul_succ]
    · have e1 : f20 (l.drop (64 * i)) = some (l.drop (64 * i), ()) := by
        unfold f20 cloneF
        rw [decide_eq_true (by simp [limit]; omega)]
        rfl
      rw [if_neg c, e1]
      simp only [Option.bind_some]
      rw [if_pos (by simp [limit]; omega)]
      refine OK.ret ⟨i, ?_, hi, by omega⟩
      rw [cutN_succ, List.take_of_length_le (by omega)]
  obtain ⟨y, e, p, rfl, h1, h2⟩ := main
  exact ⟨p, e, h1, h2⟩
/-! ### what is told next -/
theorem fold_mem {w : Int} {a : Nat} {h : List Bool} (hh : 0 < h.length) : ∀ (k : Nat) x, x ∈ ((List.range k).foldl (Chunk.look w a h) ((a : Int), [])).2 → ∃ i : Nat, x = (i : Int) ∧ i < h.length ∧ h.getD i false = false
  | 0, x, hx => by simp at hx
  | k + 1, x, hx => by
    rw [List.range_succ, List.foldl_append, List.foldl_cons, List.foldl_nil] at hx
    unfold Chunk.look at hx
    split at hx
    · rename_i hc
      rcases List.mem_append.1 hx with h1 | h1
      · exact fold_mem hh k x h1
      · rw [List.mem_singleton] at h1
        exact ⟨_, h1, Nat.mod_lt _ hh, hc.2⟩
    · exact fold_mem hh k x hx
theorem next_mem {w : Int} {a : Nat} {h : List Bool} (hh : 0 < h.length) {x : Int} (hx : x ∈ (Chunk.next w a h).2) : ∃ i : Nat, x = (i : Int) ∧ i < h.length ∧ h.getD i false = false := fold_mem hh _ x hx
theorem look_grow {w : Int} {a : Nat} {h : List Bool} (r : Int × List Int) (k : Nat) : r.2.length ≤ (Chunk.look w a h r k).2.length := by
  unfold Chunk.look
  split
  · simp
  · exact Nat.le_refl _
theorem fold_grow {w : Int} {a : Nat} {h : List Bool} : ∀ (l : List Nat) (r : Int × List Int), r.2.length ≤ (l.foldl (Chunk.look w a h) r).2.length
  | [], r => Nat.le_refl _
  | k :: l, r => by
    rw [List.foldl_cons]
    exact Nat.le_trans (look_grow r k) (fold_grow l _)
/-- As long as one lacks there is one to tell. -/
theorem next_pos {w : Int} {a : Nat} {h : List Bool} (hw : 1 ≤ w) (ha : a < h.length) (hall : Chunk.all h = false) : 0 < (Chunk.next w a h).2.length := by
  have hex : ∃ i, i < h.length ∧ h.getD i false = false := Decidable.byContradiction fun z => by
    have : Chunk.all h = true := all_true fun i hi => by
      cases e : h.getD i false with
      | true => rfl
      | false => exact absurd ⟨i, hi, e⟩ z
    rw [this] at hall
    cases hall
  obtain ⟨i, hi, he⟩ := hex
  obtain ⟨k, hk, hki⟩ : ∃ k, k < h.length ∧ (a + k) % h.length = i := by
    by_cases q : a ≤ i
    · exact ⟨i - a, by omega, by rw [show a + (i - a) = i by omega]; exact Nat.mod_eq_of_lt hi⟩
    · refine ⟨i + h.length - a, by omega, ?_⟩
      rw [show a + (i + h.length - a) = i + h.length by omega, Nat.add_mod_right]
      exact Nat.mod_eq_of_lt hi
  unfold Chunk.next
  rw [range_split (k + 1) h.length (by omega), List.foldl_append]
  refine Nat.lt_of_lt_of_le ?_ (fold_grow _ _)
  rw [List.range_succ, List.foldl_append, List.foldl_cons, List.foldl_nil]
  generalize (List.range k).foldl (Chunk.look w a h) ((a : Int), []) = r
  unfold Chunk.look
  split
  · simp
  · rename_i hc
    rw [hki] at hc
    rcases Nat.eq_zero_or_pos r.2.length with q | q
    · exact absurd ⟨by rw [q]; omega, he⟩ hc
    · exact q
theorem next_len {w : Int} {a : Nat} {h : List Bool} : (Chunk.next w a h).2.length ≤ h.length := by
  have := fold_len (n := w) (a := a) (h := h) ((a : Int), []) h.length
  simpa [Chunk.next] using this
/-! ### how many were heard of -/
def cnt (h : List Bool) : Nat := h.countP id
theorem cnt_le (h : List Bool) : cnt h ≤ h.length := List.countP_le_length
theorem cnt_mono : ∀ (h g : List Bool), h.length = g.length → (∀ i, h.getD i false = true → g.getD i false = true) → cnt h ≤ cnt g
  | [], [], _, _ => Nat.le_refl _
  | x :: h, y :: g, hl, hh => by
    have ih := cnt_mono h g (by simpa using hl) fun i hi => by simpa using hh (i + 1) (by simpa using hi)
    have h0 := hh 0
    unfold cnt at ih ⊢
    rw [List.countP_cons, List.countP_cons]
    cases x <;> cases y <;> simp at h0 ⊢ <;> omega
  | [], _ :: _, hl, _ => by simp at hl
  | _ :: _, [], hl, _ => by simp at hl
theorem cnt_lt : ∀ (h g : List Bool), h.length = g.length → (∀ i, h.getD i false = true → g.getD i false = true) → (∃ i, h.getD i false = false ∧ g.getD i false = true) → cnt h < cnt g
  | [], [], _, _, ⟨i, _, h⟩ => by simp at h
  | x :: h, y :: g, hl, hh, ⟨i, h1, h2⟩ => by
    have hl' : h.length = g.length := by simpa using hl
    have hh' : ∀ i, h.getD i false = true → g.getD i false = true := fun i hi => by simpa using hh (i + 1) (by simpa using hi)
    have h0 := hh 0
    have im := cnt_mono h g hl' hh'
    unfold cnt at im ⊢
    rw [List.countP_cons, List.countP_cons]
    cases i with
    | zero =>
      simp at h1 h2
      subst h1 h2
      simp
      omega
    | succ i =>
      have ih := cnt_lt h g hl' hh' ⟨i, by simpa using h1, by simpa using h2⟩
      unfold cnt at ih
      cases x <;> cases y <;> simp at h0 ⊢ <;> omega
  | [], _ :: _, hl, _, _ => by simp at hl
  | _ :: _, [], hl, _, _ => by simp at hl
/-! ### what the taker has -/
structure Has (L : List (List Int)) (n : Nat) (p : Ps) (m t : Nat) : Prop where
  mb : m < 65536
  bit : ∀ i, m.testBit i = true → i < n ∧ p i = L.getD i []
  len : ∀ i, (p i).length ≤ 64
  tb : (t = 0 ∧ m = 0) ∨ t = n
theorem Has.put {L : List (List Int)} {n : Nat} {p : Ps} {m t : Nat} (T : Has L n p m t) (hn : n ≤ 16) {j : Nat} (hj : j < n) (h64 : (L.getD j []).length ≤ 64) (hlast : j + 1 < n → (L.getD j []).length = 64) :
    ∃ p' m', putC (j : Int) (n : Int) (L.getD j []) (t : Int) = 0 ∧ Tkr.putS (j : Int) (n : Int) (L.getD j []) p m (t : Int) = (p', m', (n : Int)) ∧ Has L n p' m' n ∧ m'.testBit j = true ∧ ∀ i, m.testBit i = true → m'.testBit i = true := by
  have ht := T.tb
  have hC : putC (j : Int) (n : Int) (L.getD j []) (t : Int) = 0 := by
    unfold putC
    rw [if_neg (by omega), if_neg (by omega)]
  unfold Tkr.putS
  rw [if_pos hC, Int.toNat_natCast]
  cases e : m.testBit j with
  | true => exact ⟨p, m, hC, rfl, ⟨T.mb, T.bit, T.len, .inr rfl⟩, e, fun _ h => h⟩
  | false =>
    refine ⟨_, _, hC, rfl, ⟨or_lt T.mb (by omega), fun i hi => ?_, fun i => ?_, .inr rfl⟩, by rw [or_bit]; simp, fun i hi => by rw [or_bit, hi]; rfl⟩
    · rw [or_bit] at hi
      unfold Tkr.upd
      by_cases q : j = i
      · subst q; rw [if_pos rfl]; exact ⟨hj, rfl⟩
      · rw [if_neg q]; exact T.bit i (by simpa [q] using hi)
    · unfold Tkr.upd
      split
      · exact h64
      · exact T.len i
end Go.Proofs.Ytmffnlcmklapmaa.Tkr
namespace Go.Proofs.Ytmffnlcmklapmaa.Pure
open Go Go.Proofs.Ytmffnlcmklapmaa.Mx Go.Proofs.Ytmffnlcmklapmaa.Pc Go.Proofs.Ytmffnlcmklapmaa.Run Go.Proofs.Ytmffnlcmklapmaa.Chunk Go.Proofs.Ytmffnlcmklapmaa.Tkr
set_option linter.unusedVariables false
set_option linter.unusedSimpArgs false
set_option maxHeartbeats 2000000
set_option maxRecDepth 4000
theorem ChunkComes (a0 : List Int) (w0 : Ty.good (.row (.int .u8)) a0) (z0 : a0.length * 1 ≤ 140737488351232) (a1 : Int) (w1 : (Lit.int .i64 a1).wf = true) (a2 : List Bool) (w2 : Ty.good (.row .bool) a2) (z2 : a2.length * 1 ≤ 140737488351232) (a3 : List Bool) (w3 : Ty.good (.row .bool) a3) (z3 : a3.length * 1 ≤ 140737488351232) : f5 a0 a1 a2 a3 = some (true, ()) := by
  have b1 := within_b a1 6 (by decide)
  refine OK.eq ?_
  unfold f5
  rw [known_eq]
  simp only [Option.bind_some, Bool.not_true, cond_false]
  rw [bif_dec]
  by_cases c0 : (a0.length : Int) > 1024
  · rw [if_pos c0]; exact OK.ret rfl
  rw [if_neg c0]
  obtain ⟨q, e1, q1, q2⟩ := split_is a0 (by omega)
  rw [e1]
  obtain ⟨n, en⟩ : ∃ n, n = q + 1 := ⟨_, rfl⟩
  have hn1 : 1 ≤ n := by omega
  have hn2 : n ≤ 16 := by omega
  rw [← en]
  have hcl := cutN_len a0 n
  have hcg : ∀ j, j < n → ((cutN a0 n).getD j []).length ≤ 64 ∧ (j + 1 < n → ((cutN a0 n).getD j []).length = 64) := fun j hj => by
    rw [cutN_getD a0 hj, List.length_take, List.length_drop]
    exact ⟨by omega, fun h => by omega⟩
  have hflat : (cutN a0 n).flatten = a0 := by
    rw [cutN_flat]
    exact List.take_of_length_le (by omega)
  have hcget : ∀ j, j < n → (cutN a0 n).getD j [] = (a0.drop (64 * j)).take 64 := fun j hj => cutN_getD a0 hj
  have hcdef : cutN a0 n = (List.range n).map fun j => (a0.drop (64 * j)).take 64 := rfl
  generalize cutN a0 n = L at *
  simp only [Option.bind_some, bne_self_eq_false, cond_false, hcl]
  have z : ((n : Int) == 0) = false := by rw [beq_eq_false_iff_ne]; omega
  rw [z, cond_false, new_eq, if_pos (by omega)]
  simp only [Option.bind_some, Sum.elim_inr]
  unfold f7
  simp only [Option.bind_some]
  rw [Chunk.within_eq _ _ (by decide) (by decide)]
  simp only [Option.bind_some]
  rw [wr (x := 1 + within a1 6) (by omega), Int.toNat_natCast]
  obtain ⟨w, ew⟩ : ∃ w : Nat, 1 + within a1 6 = w := ⟨(1 + within a1 6).toNat, by omega⟩
  rw [ew]
  have hw1 : 1 ≤ (w : Int) := by omega
  unfold f5.L3
  refine OK.loop (fun j : Nat × Nat × Nat × Ps × Nat × Nat × List Bool => (a0, (w : Int), a2, a3, (j.2.1 : Int), (j.1 : Int), L, (j.2.2.1 : Int), j.2.2.2.1 0, j.2.2.2.1 1, j.2.2.2.1 2, j.2.2.2.1 3, j.2.2.2.1 4, j.2.2.2.1 5, j.2.2.2.1 6, j.2.2.2.1 7, j.2.2.2.1 8, j.2.2.2.1 9, j.2.2.2.1 10, j.2.2.2.1 11, j.2.2.2.1 12, j.2.2.2.1 13, j.2.2.2.1 14, j.2.2.2.1 15, (j.2.2.2.2.1 : Int), (j.2.2.2.2.2.1 : Int), j.2.2.2.2.2.2, ()))
    (fun j => j.2.2.2.2.2.2.length = n ∧ j.2.2.1 < n ∧ Has L n j.2.2.2.1 j.2.2.2.2.1 j.2.2.2.2.2.1 ∧ (∀ i, j.2.2.2.2.2.2.getD i false = true → j.2.2.2.2.1.testBit i = true) ∧ (a3.length = 0 → ∀ i, j.2.2.2.2.1.testBit i = true → j.2.2.2.2.2.2.getD i false = true) ∧ j.1 ≤ a3.length + min j.2.1 100 + cnt j.2.2.2.2.2.2 ∧ j.2.1 ≤ 16 * j.1)
    (fun j => a3.length + 200 - j.1) (fun rec j hj ih => ?_) (0, 0, 0, (fun _ => []), 0, 0, List.replicate n false) rfl
    ⟨List.length_replicate, by dsimp only; omega, ⟨(by decide : (0 : Nat) < 65536), fun i hi => by simp at hi, fun i => Nat.zero_le _, .inl ⟨rfl, rfl⟩⟩, fun i hi => ?_, fun _ i hi => by simp at hi, Nat.zero_le _, Nat.le_refl _⟩ (by dsimp only; omega)
  rotate_left
  · dsimp only at hi
    rw [List.getD_eq_getElem?_getD, List.getElem?_replicate] at hi
    split at hi <;> cases hi
  obtain ⟨r, k, a, p, m, t, H⟩ := j
  obtain ⟨hl, ha, T, hHm, hDm, hr, hk⟩ := hj
  dsimp only at hl ha T hHm hDm hr hk ih ⊢
  have hcnt := cnt_le H
  rw [done_eq _ _ (by omega)]
  simp only [Option.bind_some]
  cases hall : Chunk.all H with
  | true =>
    -- all came
    rw [Bool.not_true, cond_false]
    have hbits : ∀ i, i < n → m.testBit i = true := fun i hi => by
      refine hHm i ?_
      cases e : H.getD i false with
      | true => rfl
      | false => rw [getD_false (by omega) e] at hall; cases hall
    have hm : m = 2 ^ n - 1 := (full_iff fun i hi => (T.bit i hi).1).2 hbits
    have ht : t = n := by
      rcases T.tb with ⟨_, z⟩ | z
      · have := hbits 0 (by omega)
        rw [z] at this
        simp at this
      · exact z
    subst ht
    have hrow : row p t = L := by
      rw [hcdef]
      unfold row
      refine List.map_congr_left fun i hi => ?_
      have hi' : i < t := List.mem_range.1 hi
      rw [(T.bit i (hbits i hi')).2, hcget i hi']
    have hwh : whl p m t = (true, a0) := by
      unfold whl
      rw [if_pos ⟨by omega, hm⟩, hrow, hflat]
    rw [whole_eq p m t hn2 (fun i _ => Nat.le_trans (T.len i) (by decide)), hwh]
    simp only [Option.bind_some, cond_true, beq_self_eq_true]
    exact OK.ret rfl
  | false =>
    have e2 : IntKind.wrap .i64 (IntKind.wrap .i64 (200 + (a2.length : Int)) + (a3.length : Int)) = 200 + (a2.length : Int) + (a3.length : Int) := by
      rw [wr (x := 200 + (a2.length : Int)) (by omega), wr (by omega)]
    rw [Bool.not_false, cond_true, e2, decide_eq_false (by omega), cond_false, bits_eq, next_eq _ _ _ (by omega) (by omega)]
    simp only [Option.bind_some]
    obtain ⟨a', ha1, ha2⟩ := next_at (w : Int) a H (by omega)
    have hpl := next_pos hw1 (by omega : a < H.length) hall
    have hll := next_len (w := (w : Int)) (a := a) (h := H)
    have hmem : ∀ x, x ∈ (Chunk.next (w : Int) a H).2 → ∃ i : Nat, x = (i : Int) ∧ i < n ∧ H.getD i false = false := fun x hx => by
      obtain ⟨i, h1, h2, h3⟩ := next_mem (by omega) hx
      exact ⟨i, h1, by omega, h3⟩
    rw [ha1]
    generalize (Chunk.next (w : Int) a H).2 = pl at *
    rw [wr (x := (pl.length : Int) - 1) (by omega)]
    unfold f5.L2
    refine OK.loop (fun j : Nat × Bool × Nat × Ps × Nat × Nat => (a0, (w : Int), a2, a3, (j.1 : Int), (r : Int), (m : Int), j.2.1, (pl.length : Int) - 1 - (j.2.2.1 : Int), L, (a' : Int), j.2.2.2.1 0, j.2.2.2.1 1, j.2.2.2.1 2, j.2.2.2.1 3, j.2.2.2.1 4, j.2.2.2.1 5, j.2.2.2.1 6, j.2.2.2.1 7, j.2.2.2.1 8, j.2.2.2.1 9, j.2.2.2.1 10, j.2.2.2.1 11, j.2.2.2.1 12, j.2.2.2.1 13, j.2.2.2.1 14, j.2.2.2.1 15, (j.2.2.2.2.1 : Int), (j.2.2.2.2.2 : Int), pl, H, ()))
      (fun j => j.2.2.1 ≤ pl.length ∧ j.1 = k + j.2.2.1 ∧ Has L n j.2.2.2.1 j.2.2.2.2.1 j.2.2.2.2.2 ∧ (∀ i, m.testBit i = true → j.2.2.2.2.1.testBit i = true) ∧ (j.2.2.1 = 0 ∨ (a2.length ≠ 0 ∧ j.1 ≤ 100) ∨ ∃ x : Nat, (x : Int) ∈ pl ∧ j.2.2.2.2.1.testBit x = true))
      (fun j => pl.length - j.2.2.1) (fun rec' j hj ih' => ?_) (k, true, 0, p, m, t) (by simp) ⟨Nat.zero_le _, rfl, T, fun _ h => h, .inl rfl⟩ (by dsimp only; omega)
    obtain ⟨k', fair, c, p', m', t'⟩ := j
    obtain ⟨hc, hk', T', hmm, hprog⟩ := hj
    dsimp only at hc hk' T' hmm hprog ih' ⊢
    rw [bif_dec]
    by_cases q3 : c < pl.length
    · rw [if_pos (by omega)]
      have hi0 : Int.toNat ((pl.length : Int) - 1 - (c : Int)) = pl.length - 1 - c := by omega
      have hin : inRange ((pl.length : Int) - 1 - (c : Int)) pl.length = true := inR (by omega)
      have hx : pl.getD (pl.length - 1 - c) 0 ∈ pl := by
        rw [List.getD_eq_getElem?_getD, List.getElem?_eq_getElem (by omega)]
        exact List.getElem_mem _
      obtain ⟨x, hx1, hx2, hx3⟩ := hmem _ hx
      have wk : IntKind.wrap .i64 ((k' : Int) + 1) = ((k' + 1 : Nat) : Int) := by rw [wr (by omega)]; omega
      have wi : IntKind.wrap .i64 ((pl.length : Int) - 1 - (c : Int) - 1) = (pl.length : Int) - 1 - ((c + 1 : Nat) : Int) := by rw [wr (by omega)]; omega
      refine OK.callR (R := fun y => ∃ gone : Bool, (gone = true → a2.length ≠ 0 ∧ k' < 100) ∧ y = Sum.inl (a0, (w : Int), a2, a3, (k' : Int), (r : Int), (m : Int), fair, (pl.length : Int) - 1 - (c : Int), gone, L, (a' : Int), p' 0, p' 1, p' 2, p' 3, p' 4, p' 5, p' 6, p' 7, p' 8, p' 9, p' 10, p' 11, p' 12, p' 13, p' 14, p' 15, (m' : Int), (t' : Int), pl, H, ())) ?_ ?_
      · rw [bif_dec, bif_dec]
        by_cases g1 : (k' : Int) < a2.length
        · by_cases g2 : (k' : Int) < 100
          · rw [if_pos g1, if_pos g2, inR (by omega), cond_true]
            exact OK.ret ⟨_, fun _ => ⟨by omega, by omega⟩, rfl⟩
          · rw [if_pos g1, if_neg g2]
            exact OK.ret ⟨false, (fun h => by cases h), rfl⟩
        · rw [if_neg g1]
          exact OK.ret ⟨false, (fun h => by cases h), rfl⟩
      · rintro _ ⟨gone, hg, rfl⟩
        simp only [Sum.elim_inl]
        refine OK.callR (R := fun y => ∃ fair' : Bool, y = Sum.inl (a0, (w : Int), a2, a3, ((k' + 1 : Nat) : Int), (r : Int), (m : Int), fair', (pl.length : Int) - 1 - (c : Int), gone, L, (a' : Int), p' 0, p' 1, p' 2, p' 3, p' 4, p' 5, p' 6, p' 7, p' 8, p' 9, p' 10, p' 11, p' 12, p' 13, p' 14, p' 15, (m' : Int), (t' : Int), pl, H, ())) ?_ ?_
        · rw [wk]
          exact OK.bif (fun _ => OK.ret ⟨_, rfl⟩) fun _ => OK.ret ⟨_, rfl⟩
        · rintro _ ⟨fair', rfl⟩
          simp only [Sum.elim_inl, hi0, hin, cond_true, wi]
          cases gone with
          | true =>
            rw [Bool.not_true, cond_false]
            have := hg rfl
            exact ih' (k' + 1, fair', c + 1, p', m', t') ⟨by dsimp only; omega, by dsimp only; omega, T', hmm, .inr (.inl ⟨this.1, by dsimp only; omega⟩)⟩ (by dsimp only; omega) _ rfl
          | false =>
            obtain ⟨p1, m1, C1, S1, T1, B1, M1⟩ := T'.put hn2 hx2 (hcg x hx2).1 (hcg x hx2).2
            obtain ⟨p2, m2, C2, S2, T2, B2, M2⟩ := T1.put hn2 hx2 (hcg x hx2).1 (hcg x hx2).2
            have hinL : inRange (x : Int) n = true := inR (by omega)
            rw [hx1, Int.toNat_natCast, hcl, hinL]
            simp only [cond_true]
            rw [Bool.not_false, cond_true, putr_eq _ _ _ p' m' _ (by have := (hcg x hx2).1; omega) T'.mb, C1, S1]
            simp only [Option.bind_some, bne_self_eq_false, cond_false]
            rw [putr_eq _ _ _ p1 m1 _ (by have := (hcg x hx2).1; omega) T1.mb, C2, S2]
            simp only [Option.bind_some, bne_self_eq_false, cond_false]
            exact ih' (k' + 1, fair', c + 1, p2, m2, n) ⟨by dsimp only; omega, by dsimp only; omega, T2, fun i hi => M2 i (M1 i (hmm i hi)), .inr (.inr ⟨x, by rw [← hx1]; exact hx, B2⟩)⟩ (by dsimp only; omega) _ rfl
    · have hcl2 : c = pl.length := by omega
      subst hcl2
      rw [if_neg (by omega)]
      have ht' : t' ≤ 16 := by rcases T'.tb with ⟨z, _⟩ | z <;> omega
      have hprog : (a2.length ≠ 0 ∧ k' ≤ 100) ∨ ∃ x : Nat, (x : Int) ∈ pl ∧ m'.testBit x = true := by
        rcases hprog with z | z
        · omega
        · exact z
      rw [whole_eq p' m' t' ht' (fun i _ => Nat.le_trans (T'.len i) (by decide))]
      simp only [Option.bind_some]
      refine OK.callR (R := fun y => y = Sum.inl (a0, (w : Int), a2, a3, (k' : Int), (r : Int), L, (a' : Int), p' 0, p' 1, p' 2, p' 3, p' 4, p' 5, p' 6, p' 7, p' 8, p' 9, p' 10, p' 11, p' 12, p' 13, p' 14, p' 15, (m' : Int), (t' : Int), H, ())) ?_ ?_
      · refine OK.bif (fun _ => ?_) fun _ => OK.ret rfl
        refine OK.bif (fun _ => ?_) fun _ => OK.ret rfl
        refine OK.bif (fun d0 => ?_) fun _ => OK.ret rfl
        refine OK.bif (fun l0 => ?_) fun _ => OK.ret rfl
        rw [bits_eq]
        simp only [Option.bind_some]
        refine OK.bif (fun e0 => ?_) fun _ => OK.ret rfl
        exfalso
        have d1 : a3.length = 0 := by have := beq_iff_eq.1 d0; omega
        have l1 : a2.length = 0 := by have := beq_iff_eq.1 l0; omega
        have m1 : m' = m := by have := beq_iff_eq.1 e0; omega
        rcases hprog with z | ⟨x, hx, hb⟩
        · exact z.1 l1
        · obtain ⟨i, h1, h2, h3⟩ := hmem _ hx
          have : x = i := by omega
          subst this
          rw [m1] at hb
          rw [hDm d1 x hb] at h3
          cases h3
      · rintro _ rfl
        simp only [Sum.elim_inl]
        have wr1 : IntKind.wrap .i64 ((r : Int) + 1) = ((r + 1 : Nat) : Int) := by rw [wr (by omega)]; omega
        have hal := acked_len (m' : Int) H H.length
        have hag : ∀ i, i < n → (acked (m' : Int) H H.length).getD i false = (H.getD i false || m'.testBit i) := fun i hi => by
          rw [acked_get _ _ _ _ (Nat.le_refl _), if_pos (by omega), bit_eq T'.mb (by omega)]
        have hag2 : ∀ i, ¬ i < n → (acked (m' : Int) H H.length).getD i false = false := fun i hi => by
          rw [List.getD_eq_getElem?_getD, List.getElem?_eq_none (by omega)]; rfl
        have heard : (a3.length ≤ r ∨ ¬ a3.length ≤ r) → OK (Option.bind (f10 ((p' 0, p' 1, p' 2, p' 3, p' 4, p' 5, p' 6, p' 7, p' 8, p' 9, p' 10, p' 11, p' 12, p' 13, p' 14, p' 15), (m' : Int), (t' : Int))) fun y => Option.bind (f19 y.1 (a' : Int) H) fun z => rec (a0, (w : Int), a2, a3, (k' : Int), ((r + 1 : Nat) : Int), L, z.1, p' 0, p' 1, p' 2, p' 3, p' 4, p' 5, p' 6, p' 7, p' 8, p' 9, p' 10, p' 11, p' 12, p' 13, p' 14, p' 15, (m' : Int), (t' : Int), z.2.1, ())) fun b => b = (true, ()) := fun _ => by
          rw [bits_eq]
          simp only [Option.bind_some]
          rw [ack_eq _ _ _ (by omega)]
          simp only [Option.bind_some]
          have mono : ∀ i, H.getD i false = true → (acked (m' : Int) H H.length).getD i false = true := fun i hi => by
            by_cases q : i < n
            · rw [hag i q, hi]; rfl
            · rw [List.getD_eq_getElem?_getD, List.getElem?_eq_none (by omega)] at hi; cases hi
          have hc2 : cnt H ≤ cnt (acked (m' : Int) H H.length) := cnt_mono _ _ (by omega) mono
          have hr2 : r + 1 ≤ a3.length + min k' 100 + cnt (acked (m' : Int) H H.length) := by
            rcases hprog with ⟨_, z⟩ | ⟨x, hx, hb⟩
            · omega
            · obtain ⟨i, h1, h2, h3⟩ := hmem _ hx
              have hxi : x = i := by omega
              subst hxi
              have : cnt H < cnt (acked (m' : Int) H H.length) := cnt_lt _ _ (by omega) mono ⟨x, h3, by rw [hag x h2, hb]; simp⟩
              omega
          refine ih (r + 1, k', a', p', m', t', acked (m' : Int) H H.length) ⟨by dsimp only; omega, by dsimp only; omega, T', fun i hi => ?_, fun _ i hi => ?_, hr2, by dsimp only; omega⟩ (by dsimp only; omega) _ rfl
          · dsimp only at hi ⊢
            by_cases q : i < n
            · rw [hag i q] at hi
              rcases Bool.or_eq_true_iff.1 hi with z | z
              · exact hmm i (hHm i z)
              · exact z
            · rw [hag2 i q] at hi; cases hi
          · dsimp only at hi ⊢
            rw [hag i (T'.bit i hi).1, hi]
            simp
        rw [wr1, bif_dec]
        by_cases q5 : (r : Int) ≥ a3.length
        · rw [if_pos q5]
          exact heard (.inl (by omega))
        · rw [if_neg q5, inR (by omega), cond_true]
          refine OK.bif (fun _ => heard (.inr (by omega))) fun _ => ?_
          refine ih (r + 1, k', a', p', m', t', H) ⟨hl, by dsimp only; omega, T', fun i hi => hmm i (hHm i hi), fun z => by omega, by dsimp only; omega, by dsimp only; omega⟩ (by dsimp only; omega) _ rfl
end Go.Proofs.Ytmffnlcmklapmaa.Pure

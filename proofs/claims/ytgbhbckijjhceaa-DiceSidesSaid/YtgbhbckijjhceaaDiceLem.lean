/- Plain laws of the dice: what is mixed, and what a die shows, as one function of the numbers. No condition but the bounds in each statement. -/
import Derived.Test.YtgbhbckijjhceaaQ2
import Derived.OpenShut
namespace Go.Proofs.Ytgbhbckijjhceaa.Pure
open Go.RowKit Go.Proofs.Ytgbhbckijjhceaa.Q Go.Proofs.YtgbhbckijjhceaaW.PrintWords Go.Proofs.YtgbhbckijjhceaaW.PrintLast

theorem u64_range {n : Int} (h : (Lit.int .u64 n).wf = true) : 0 ≤ n ∧ n < 18446744073709551616 := by
  simp [Lit.wf, IntKind.min, IntKind.max, IntKind.signed, IntKind.bits] at h
  omega
theorem i64_range {n : Int} (h : (Lit.int .i64 n).wf = true) : -9223372036854775808 ≤ n ∧ n < 9223372036854775808 := by
  simp [Lit.wf, IntKind.min, IntKind.max, IntKind.signed, IntKind.bits] at h
  omega
theorem u64_wrap_eq (n : Int) : IntKind.u64.wrap n = n % 18446744073709551616 := by simp [IntKind.wrap, IntKind.bits, IntKind.signed]

/-- What is mixed of one number. -/
def mx (a : Int) : Int := (dice_mix.f a).getD 0
theorem mx_eq (a : Int) : dice_mix.f a = some (mx a) := rfl
theorem mx_eq' (a : Int) : aditref2_m.f a = some (mx a) := rfl
theorem mx_range (a : Int) : 0 ≤ mx a ∧ mx a < 18446744073709551616 := by
  unfold mx dice_mix.f
  rw [Option.getD_some]
  exact u64_range (wf_bits _ _ _ _)
def stp (x v : Int) : Int := mx (IntKind.u64.wrap ((Go.bits .xor .u64 x (IntKind.u64.wrap v)) + 11400714819323198485))
def mixd (s : Int) (l : List Int) : Int := l.foldl stp (mx (IntKind.u64.wrap (IntKind.u64.wrap s + 11400714819323198485)))
theorem fold_range (l : List Int) : ∀ x, 0 ≤ x ∧ x < 18446744073709551616 → 0 ≤ l.foldl stp x ∧ l.foldl stp x < 18446744073709551616 := by
  induction l with
  | nil => intro x h; exact h
  | cons a l ih => intro x h; exact ih _ (mx_range _)
theorem mixd_range (s : Int) (l : List Int) : 0 ≤ mixd s l ∧ mixd s l < 18446744073709551616 := fold_range l _ (mx_range _)
theorem next_at {i n : Nat} (h : i < n) (hn : n ≤ 140737488351232) : wrap64 ((i : Int) + 1) = ((i + 1 : Nat) : Int) := by unfold wrap64; omega
theorem rd_at (l : List Int) (i : Nat) (h : i < l.length) : rd l (i : Int) = l[i] := by
  unfold rd
  simp [h]

theorem mix_loop (l : List Int) (hl : l.length ≤ 140737488351232) (d : Nat) : ∀ (k i : Nat) (x : Int), i + d = l.length → d < k →
    dice_Mix.l0 k x l (l.length : Int) (i : Int) = some ((l.drop i).foldl stp x) := by
  induction d with
  | zero =>
    intro k i x hi hk
    obtain ⟨k, rfl⟩ : ∃ m, k = m + 1 := ⟨k - 1, by omega⟩
    simp only [dice_Mix.l0]
    rw [if_neg (by omega), List.drop_of_length_le (by omega)]; rfl
  | succ d ih =>
    intro k i x hi hk
    obtain ⟨k, rfl⟩ : ∃ m, k = m + 1 := ⟨k - 1, by omega⟩
    have h : i < l.length := by omega
    simp only [dice_Mix.l0]
    rw [if_pos (by omega), if_pos (by omega), if_pos (by omega), mx_eq]
    simp only [Option.bind_some]
    rw [next_at h hl, ih k (i + 1) _ (by omega) (by omega), List.drop_eq_getElem_cons h, rd_at l i h]
    rfl
theorem ref_loop (l : List Int) (hl : l.length ≤ 140737488351232) (d : Nat) : ∀ (k i : Nat) (x : Int), i + d = l.length → d < k →
    aditref2_Mix.l0 k l x (i : Int) = some ((l.drop i).foldl stp x) := by
  induction d with
  | zero =>
    intro k i x hi hk
    obtain ⟨k, rfl⟩ : ∃ m, k = m + 1 := ⟨k - 1, by omega⟩
    simp only [aditref2_Mix.l0]
    rw [if_neg (by omega), List.drop_of_length_le (by omega)]; rfl
  | succ d ih =>
    intro k i x hi hk
    obtain ⟨k, rfl⟩ : ∃ m, k = m + 1 := ⟨k - 1, by omega⟩
    have h : i < l.length := by omega
    simp only [aditref2_Mix.l0]
    rw [if_pos (by omega), if_pos (by omega), mx_eq']
    simp only [Option.bind_some]
    rw [next_at h hl, ih k (i + 1) _ (by omega) (by omega), List.drop_eq_getElem_cons h, rd_at l i h]
    rfl
theorem mix_is (k : Nat) (s : Int) (l : List Int) (hl : l.length ≤ 140737488351232) (hk : l.length < k) : dice_Mix.f k s l = some (mixd s l) := by
  unfold dice_Mix.f
  rw [mx_eq]
  simp only [Option.bind_some]
  exact mix_loop l hl l.length k 0 _ (by omega) hk
theorem mix_ref (k : Nat) (s : Int) (l : List Int) (hl : l.length ≤ 140737488351232) (hk : l.length < k) : aditref2_Mix.f k s l = some (mixd s l) := by
  unfold aditref2_Mix.f
  rw [mx_eq']
  simp only [Option.bind_some]
  exact ref_loop l hl l.length k 0 _ (by omega) hk

/-- What a die shows. -/
def died (n s : Int) (l : List Int) : Int := if n < 1 then 0 else mixd s l % n
theorem wrap_sides {n : Int} (h0 : ¬ n < 1) (h1 : n < 9223372036854775808) : IntKind.u64.wrap n = n := by rw [u64_wrap_eq]; omega
theorem tmod_is {x n : Int} (h : 0 ≤ x) : Int.tmod x n = x % n := Int.tmod_eq_emod_of_nonneg h
theorem died_range (n s : Int) (l : List Int) (h0 : ¬ n < 1) : 0 ≤ died n s l ∧ died n s l < n := by
  unfold died
  rw [if_neg h0]
  exact ⟨Int.emod_nonneg _ (by omega), Int.emod_lt_of_pos _ (by omega)⟩
theorem die_is (k : Nat) (n s : Int) (l : List Int) (hn : n < 9223372036854775808) (hl : l.length ≤ 140737488351232) (hk : l.length < k) : dice_Die.f k n s l = some (died n s l) := by
  unfold dice_Die.f
  by_cases h : n < 1
  · rw [if_pos h]; unfold died; rw [if_pos h]
  · have hr := died_range n s l h
    rw [if_neg h, mix_is k s l hl hk]
    simp only [Option.bind_some]
    rw [wrap_sides h hn, if_neg (by omega), tmod_is (mixd_range s l).1]
    unfold died at hr ⊢
    rw [if_neg h] at hr ⊢
    rw [show wrap64 (mixd s l % n) = mixd s l % n by unfold wrap64; omega]

theorem die_ref (k : Nat) (n s : Int) (l : List Int) (hn : n < 9223372036854775808) (hl : l.length ≤ 140737488351232) (hk : l.length < k) : aditref2_Die.f k n s l = some (died n s l) := by
  unfold aditref2_Die.f
  by_cases h : n < 1
  · rw [if_pos h]; unfold died; rw [if_pos h]
  · have hr := died_range n s l h
    rw [if_neg h, mix_ref k s l hl hk]
    simp only [Option.bind_some]
    rw [wrap_sides h hn, if_neg (by omega), tmod_is (mixd_range s l).1]
    unfold died at hr ⊢
    rw [if_neg h] at hr ⊢
    rw [show wrap64 (mixd s l % n) = mixd s l % n by unfold wrap64; omega]

theorem known_is (k : Nat) (hk : 5 ≤ k) : aditlaw2_known.f k = some true := at_rounds (fun k => aditlaw2_known.mono k) hk (show aditlaw2_known.f 5 = some true by decide +kernel)

end Go.Proofs.Ytgbhbckijjhceaa.Pure

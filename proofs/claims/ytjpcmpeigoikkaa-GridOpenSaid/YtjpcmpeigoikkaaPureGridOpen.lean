/- Proved: where nothing is in the way a cell is as far from a target as rows and columns lie between; of several the nearest counts. No condition. -/
import Derived.Test.YtjpcmpeigoikkaaQ14
import Derived.Test.YtjpcmpeigoikkaaFieldRun
import Derived.Test.YtjpcmpeigoikkaaGridLem
namespace Go.Proofs.Ytjpcmpeigoikkaa.Pure
set_option linter.unusedVariables false
set_option linter.unusedSimpArgs false
open Go.RowKit Go.Proofs.Ytjpcmpeigoikkaa.Q Go.Proofs.YtjpcmpeigoikkaaW.PrintWords Go.Proofs.YtjpcmpeigoikkaaW.PrintLast Go.Proofs.YtjpcmpeigoikkaaW.PrintMore

/-- Rows and columns between two cells. -/
def man (a n : Int) : Int := max (a % 24 - n % 24) (n % 24 - a % 24) + max (a / 24 - n / 24) (n / 24 - a / 24)
theorem far_is (a n : Int) (ha : GC a) (hn : GC n) : aditlaw3_far.f a n = some (man a n) := by
  unfold GC at ha hn
  unfold aditlaw3_far.f man
  rw [Int.tmod_eq_emod_of_nonneg ha.1, Int.tmod_eq_emod_of_nonneg hn.1, Int.tdiv_eq_ediv_of_nonneg ha.1, Int.tdiv_eq_ediv_of_nonneg hn.1]
  rw [w64 (n := a / 24) (by omega) (by omega), w64 (n := n / 24) (by omega) (by omega), w64 (n := a % 24 - n % 24) (by omega) (by omega), w64 (n := a / 24 - n / 24) (by omega) (by omega), w64 (n := -(a % 24 - n % 24)) (by omega) (by omega), w64 (n := -(a / 24 - n / 24)) (by omega) (by omega), mx_max, mx_max, w64 (by omega) (by omega)]
  congr 2 <;> omega
theorem rd_map (g : Int → Int) (n : Int) (hn : GC n) : rd ((List.range 384).map (fun i : Nat => g (i : Int))) n = g n := by
  unfold GC at hn
  unfold rd
  have hl : n.toNat < ((List.range 384).map (fun i : Nat => g (i : Int))).length := by rw [List.length_map, List.length_range]; omega
  rw [List.getD_eq_getElem?_getD, List.getElem?_eq_getElem hl, Option.getD_some, List.getElem_map, List.getElem_range]
  congr 1
  omega
theorem man_zero (a n : Int) (ha : GC a) (hn : GC n) : man a n = 0 ↔ n = a := by
  unfold GC at ha hn
  unfold man
  omega
theorem man_adj (a m n : Int) (hm : GC m) (hn : GC n) (h : adj m n) : man a n ≤ man a m + 1 := by
  obtain ⟨d, hd, e⟩ := h
  unfold GC at hm hn
  unfold man
  match d, hd with
  | 0, _ => unfold nbr at e; simp only at e; split at e <;> omega
  | 1, _ => unfold nbr at e; simp only at e; split at e <;> omega
  | 2, _ => unfold nbr at e; simp only at e; split at e <;> omega
  | 3, _ => unfold nbr at e; simp only at e; split at e <;> omega
theorem man_step (a n : Int) (ha : GC a) (hn : GC n) (h : 0 < man a n) : ∃ m, GC m ∧ adj m n ∧ man a m = man a n - 1 := by
  unfold GC at ha hn
  unfold man at h
  rcases (by omega : n % 24 < a % 24 ∨ a % 24 < n % 24 ∨ n / 24 < a / 24 ∨ a / 24 < n / 24) with c | c | c | c
  · refine ⟨n + 1, ⟨by omega, by omega⟩, ⟨3, by decide, ?_⟩, ?_⟩
    · unfold nbr; simp only; rw [if_pos (by omega)]; omega
    · unfold man; omega
  · refine ⟨n - 1, ⟨by omega, by omega⟩, ⟨1, by decide, ?_⟩, ?_⟩
    · unfold nbr; simp only; rw [if_pos (by omega)]; omega
    · unfold man; omega
  · refine ⟨n + 24, ⟨by omega, by omega⟩, ⟨0, by decide, ?_⟩, ?_⟩
    · unfold nbr; simp only; rw [if_pos (by omega)]; omega
    · unfold man; omega
  · refine ⟨n - 24, ⟨by omega, by omega⟩, ⟨2, by decide, ?_⟩, ?_⟩
    · unfold nbr; simp only; rw [if_pos (by omega)]; omega
    · unfold man; omega
theorem man_nonneg (a n : Int) : 0 ≤ man a n := by unfold man; omega
theorem ones_at (n : Int) (hn : GC n) : rd (List.replicate 384 1) n = 1 := by
  unfold GC at hn
  show (List.replicate 384 (1 : Int)).getD n.toNat 0 = 1
  rw [List.getD_eq_getElem?_getD, List.getElem?_replicate, if_pos (by omega)]
  rfl
theorem open_all (n : Int) (hn : GC n) : opnC (List.replicate 384 1) [] n := ⟨by rw [ones_at n hn]; decide, fun h => by have := h.1; unfold GC at hn; simp at this; omega⟩
theorem open_field (a b : Int) (ha : GC a) (hb : GC b) : IsField (opnC (List.replicate 384 1) []) (IsT (List.replicate 384 1) [a, b]) ((List.range 384).map (fun i : Nat => min (man a (i : Int)) (man b (i : Int)))) := by
  have hr := fun n hn => rd_map (fun n => min (man a n) (man b n)) n hn
  refine ⟨⟨by rw [List.length_map, List.length_range], fun n hn => ?_, fun n hn => ?_, fun n hn hp => ?_⟩, fun m n hm hn h1 h2 h3 => ?_⟩
  · rw [hr n hn]
    have := man_nonneg a n
    have := man_nonneg b n
    omega
  · rw [hr n hn]
    have h1 := man_nonneg a n
    have h2 := man_nonneg b n
    have h3 := man_zero a n ha hn
    have h4 := man_zero b n hb hn
    constructor
    · intro h
      refine ⟨?_, by rw [ones_at n hn]; decide⟩
      rcases (by omega : man a n = 0 ∨ man b n = 0) with x | x
      · rw [h3.1 x]; simp
      · rw [h4.1 x]; simp
    · intro h
      rcases List.mem_cons.1 h.1 with x | x
      · have := h3.2 x
        omega
      · have := h4.2 (List.mem_singleton.1 x)
        omega
  · refine ⟨open_all n hn, ?_⟩
    rw [hr n hn] at hp ⊢
    rcases (by omega : man a n ≤ man b n ∨ man b n ≤ man a n) with c | c
    · obtain ⟨m, hm, hadj, hv⟩ := man_step a n ha hn (by omega)
      have := man_adj b m n hm hn hadj
      refine ⟨m, hm, hadj, ?_⟩
      rw [hr m hm]
      omega
    · obtain ⟨m, hm, hadj, hv⟩ := man_step b n hb hn (by omega)
      have := man_adj a m n hm hn hadj
      refine ⟨m, hm, hadj, ?_⟩
      rw [hr m hm]
      omega
  · rw [hr n hn, hr m hm]
    have h5 := man_nonneg a n
    have h6 := man_nonneg b n
    have h3 := man_adj a m n hm hn h2
    have h4 := man_adj b m n hm hn h2
    omega
theorem ones_cb : CB (List.replicate 384 1) := ⟨List.length_replicate, fun i => by
  rw [List.getD_eq_getElem?_getD, List.getElem?_replicate]
  split
  · exact ⟨by decide, by decide⟩
  · exact ⟨Int.le_refl _, by decide⟩⟩
theorem GridOpen : aditlaw3_GridOpen.Pure := by
  intro a b n _ _ _
  refine ⟨20000, ?_⟩
  unfold aditlaw3_GridOpen.f
  rw [known_is _ (by omega), Option.bind_some, if_pos rfl, within_is _ _ (by omega) (by omega), Option.bind_some, within_is _ _ (by omega) (by omega), Option.bind_some, within_is _ _ (by omega) (by omega), Option.bind_some]
  have ha : GC (a % 384) := by unfold GC; omega
  have hb : GC (b % 384) := by unfold GC; omega
  have hn : GC (n % 384) := by unfold GC; omega
  generalize a % 384 = x at ha ⊢
  generalize b % 384 = y at hb ⊢
  generalize n % 384 = z at hn ⊢
  obtain ⟨g, e1, e2⟩ := field_is 20000 (by omega) _ ones_cb [] [x, y] (by simp)
  have hg := field_one e2 (open_field x y ha hb)
  have hl := e2.len
  have hn' := hn
  unfold GC at hn'
  rw [full_ones _ (by omega), Option.bind_some, e1, Option.bind_some, if_pos (by omega), if_pos (by omega), if_pos (by omega), far_is x z ha hn, Option.bind_some, far_is y z hb hn, Option.bind_some, hg, rd_map (fun n => min (man x n) (man y n)) z hn]
  have : mn (man x z) (man y z) = min (man x z) (man y z) := by unfold mn; omega
  rw [this]
  simp
end Go.Proofs.Ytjpcmpeigoikkaa.Pure

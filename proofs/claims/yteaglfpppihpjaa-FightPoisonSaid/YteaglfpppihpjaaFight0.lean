/- Blows in plain words, and that both texts give them (own work). -/
import Derived.Test.YteaglfpppihpjaaWorld
namespace Go.Proofs.Yteaglfpppihpjaa.Ft
open Go Go.Proofs.Yteaglfpppihpjaa.Mx Go.Proofs.Yteaglfpppihpjaa.Pc Go.Proofs.Yteaglfpppihpjaa.Run Go.Proofs.Yteaglfpppihpjaa.Field Go.Proofs.Yteaglfpppihpjaa.Gen Go.Proofs.Yteaglfpppihpjaa.GenL Go.Proofs.Yteaglfpppihpjaa.Fl Go.Proofs.Yteaglfpppihpjaa.Wd
set_option linter.unusedVariables false
set_option linter.unusedSimpArgs false
set_option maxHeartbeats 1000000
def kd (e : EntT) : Int := e.1
def gn (e : EntT) : Int := e.2.1
def st (e : EntT) : Int := e.2.2.1
def ex (e : EntT) : Int := e.2.2.2.1
def ey (e : EntT) : Int := e.2.2.2.2.1
def hp (e : EntT) : Int := e.2.2.2.2.2.1
def mxh (e : EntT) : Int := e.2.2.2.2.2.2.1
def atk (e : EntT) : Int := e.2.2.2.2.2.2.2.1
def df (e : EntT) : Int := e.2.2.2.2.2.2.2.2.1
def po (e : EntT) : Int := e.2.2.2.2.2.2.2.2.2.1
def sn (e : EntT) : Int := e.2.2.2.2.2.2.2.2.2.2
def setHP (e : EntT) (v : Int) : EntT := (e.1, e.2.1, e.2.2.1, e.2.2.2.1, e.2.2.2.2.1, v, e.2.2.2.2.2.2.1, e.2.2.2.2.2.2.2.1, e.2.2.2.2.2.2.2.2.1, e.2.2.2.2.2.2.2.2.2.1, e.2.2.2.2.2.2.2.2.2.2)
def setPo (e : EntT) (v : Int) : EntT := (e.1, e.2.1, e.2.2.1, e.2.2.2.1, e.2.2.2.2.1, e.2.2.2.2.2.1, e.2.2.2.2.2.2.1, e.2.2.2.2.2.2.2.1, e.2.2.2.2.2.2.2.2.1, v, e.2.2.2.2.2.2.2.2.2.2)
def setSn (e : EntT) (v : Int) : EntT := (e.1, e.2.1, e.2.2.1, e.2.2.2.1, e.2.2.2.2.1, e.2.2.2.2.2.1, e.2.2.2.2.2.2.1, e.2.2.2.2.2.2.2.1, e.2.2.2.2.2.2.2.2.1, e.2.2.2.2.2.2.2.2.2.1, v)
/-- An entity as it may be. -/
def EOk (e : EntT) : Prop := (kd e = 0 ∧ e = (0, gn e, 0, 0, 0, 0, 0, 0, 0, 0, 0)) ∨ (1 ≤ kd e ∧ kd e ≤ 4 ∧ 1 ≤ hp e ∧ hp e ≤ mxh e ∧ mxh e ≤ 20 ∧ 0 ≤ atk e ∧ atk e ≤ 5 ∧ 0 ≤ df e ∧ df e ≤ 1 ∧ 0 ≤ po e ∧ po e ≤ 9 ∧ 0 ≤ sn e ∧ sn e ≤ 9)
structure LOk (l : List EntT) : Prop where
  len : l.length = 32
  ent : ∀ i, i < 32 → EOk (l.getD i eN)
/-- Items of which those that are worn have a kind. -/
def IOk (its : List ItT) : Prop := its.length ≤ 1000 ∧ ∀ i, i < its.length → (its.getD i iN).2.1 ≠ 0 → (its.getD i iN).1 ≠ 0
def alive (l : List EntT) (r : Int) : Bool := decide (0 ≤ r) && decide (r < (l.length : Int)) && (l.getD r.toNat eN).1 != 0
def freeE (e : EntT) : EntT := (0, e.2.1, 0, 0, 0, 0, 0, 0, 0, 0, 0)
def sweep1 (s : Int) (x : ItT) : ItT := if (x.2.1 = 2 ∨ x.2.1 = 3) ∧ x.2.2.1 = s then iN else x
def sweep (its : List ItT) (s : Int) : List ItT := its.map (sweep1 s)
def hurt (l : List EntT) (its : List ItT) (r n : Int) : List EntT × List ItT :=
  if alive l r = false ∨ n < 1 then (l, its)
  else if n < hp (l.getD r.toNat eN) then (l.set r.toNat (setHP (l.getD r.toNat eN) (hp (l.getD r.toNat eN) - n)), its)
  else (l.set r.toNat (freeE (l.getD r.toNat eN)), if kd (l.getD r.toNat eN) = 1 then sweep its (st (l.getD r.toNat eN)) else its)
def bon (its : List ItT) (s : Int) : Int × Int := (if inI its 3 s 0 < 0 then 0 else 3, if inI its 3 s 1 < 0 then 0 else 2)
noncomputable section
def dval (n s : Int) (l : List Int) : Int := ((f35 n s l).getD (0, ())).1
theorem die_is (n s : Int) (l : List Int) (hl : l.length ≤ 1000) (h1 : 1 ≤ n) (h2 : n ≤ 1000000000) : f35 n s l = some (dval n s l, ()) ∧ 0 ≤ dval n s l ∧ dval n s l < n := by
  obtain ⟨y, e, h⟩ := die_ok n s l (by omega) h1 h2
  unfold dval
  rw [e]
  exact ⟨rfl, h⟩
def arm (e : EntT) (its : List ItT) : Int := if kd e = 1 then atk e + (bon its (st e)).1 else atk e
def guard' (e : EntT) (its : List ItT) : Int := if kd e = 1 then df e + (bon its (st e)).2 else df e
/-- What a blow takes. -/
def blow (sd fr a b : Int) (l : List EntT) (its : List ItT) : Int := max 1 (arm (l.getD a.toNat eN) its - guard' (l.getD b.toNat eN) its) + dval 3 sd [fr, a, b, 77]
/-- What a blow leaves. -/
def leave (sd fr a b k : Int) (l : List EntT) : List EntT :=
  if k = 4 then l.set b.toNat (setPo (l.getD b.toNat eN) (min (po (l.getD b.toNat eN) + 3) 9))
  else if k = 3 then (if dval 4 sd [fr, a, b, 78] = 0 then l.set b.toNat (setSn (l.getD b.toNat eN) (min (sn (l.getD b.toNat eN) + 2) 9)) else l)
  else l
def hit (sd fr : Int) (l : List EntT) (its : List ItT) (a b : Int) : List EntT × List ItT :=
  if alive l a = false ∨ alive l b = false then (l, its)
  else if alive (hurt l its b (blow sd fr a b l its)).1 b = false then hurt l its b (blow sd fr a b l its)
  else (leave sd fr a b (kd (l.getD a.toNat eN)) (hurt l its b (blow sd fr a b l its)).1, (hurt l its b (blow sd fr a b l its)).2)
/-- A row's ailments, one frame of them. -/
def ail1 (l : List EntT) (its : List ItT) (i : Nat) : List EntT × List ItT :=
  if alive l i = false then (l, its)
  else
    let l1 := if 0 < sn (l.getD i eN) then l.set i (setSn (l.getD i eN) (sn (l.getD i eN) - 1)) else l
    if 0 < po (l1.getD i eN) then hurt (l1.set i (setPo (l1.getD i eN) (po (l1.getD i eN) - 1))) its i 1 else (l1, its)
def ail (l : List EntT) (its : List ItT) (n : Nat) : List EntT × List ItT := (List.range n).foldl (fun p i => ail1 p.1 p.2 i) (l, its)
theorem ail_succ (l : List EntT) (its : List ItT) (n : Nat) : ail l its (n + 1) = ail1 (ail l its n).1 (ail l its n).2 n := by
  unfold ail
  rw [List.range_succ, List.foldl_append]; rfl
/-! what stays so -/
theorem getD_set' {A : Type} (l : List A) (i j : Nat) (x d : A) (h : i < l.length) : (l.set i x).getD j d = if i = j then x else l.getD j d := by
  rw [getD_set]
  by_cases e : i = j
  · rw [if_pos ⟨e, h⟩, if_pos e]
  · rw [if_neg (fun z => e z.1), if_neg e]
theorem LOk.set {l : List EntT} (h : LOk l) (i : Nat) {e : EntT} (he : EOk e) : LOk (l.set i e) := ⟨by rw [List.length_set]; exact h.len, fun j hj => by
  rw [getD_set]
  split
  · exact he
  · exact h.ent j hj⟩
theorem alive_iff {l : List EntT} {r : Int} : alive l r = true ↔ 0 ≤ r ∧ r < l.length ∧ kd (l.getD r.toNat eN) ≠ 0 := by
  unfold alive kd
  simp only [Bool.and_eq_true, decide_eq_true_eq, bne_iff_ne, ne_eq, and_assoc]
theorem alive_not {l : List EntT} {r : Int} (h : ¬ (alive l r = false ∨ False)) : alive l r = true := by
  cases e : alive l r with
  | true => rfl
  | false => exact absurd (.inl e) h
theorem EOk.free (e : EntT) : EOk (freeE e) := .inl ⟨rfl, rfl⟩
theorem LOk.taken {l : List EntT} (h : LOk l) {r : Int} (ha : alive l r = true) : 1 ≤ kd (l.getD r.toNat eN) ∧ kd (l.getD r.toNat eN) ≤ 4 ∧ 1 ≤ hp (l.getD r.toNat eN) ∧ hp (l.getD r.toNat eN) ≤ mxh (l.getD r.toNat eN) ∧ mxh (l.getD r.toNat eN) ≤ 20 ∧ 0 ≤ atk (l.getD r.toNat eN) ∧ atk (l.getD r.toNat eN) ≤ 5 ∧ 0 ≤ df (l.getD r.toNat eN) ∧ df (l.getD r.toNat eN) ≤ 1 ∧ 0 ≤ po (l.getD r.toNat eN) ∧ po (l.getD r.toNat eN) ≤ 9 ∧ 0 ≤ sn (l.getD r.toNat eN) ∧ sn (l.getD r.toNat eN) ≤ 9 := by
  obtain ⟨h0, h1, h2⟩ := alive_iff.1 ha
  have hl := h.len
  rcases h.ent r.toNat (by omega) with ⟨q, _⟩ | q
  · exact absurd q h2
  · exact q
theorem sweep_len (its : List ItT) (s : Int) : (sweep its s).length = its.length := by simp [sweep]
theorem sweep_get (its : List ItT) (s : Int) (i : Nat) : (sweep its s).getD i iN = sweep1 s (its.getD i iN) := by
  unfold sweep
  simp only [List.getD_eq_getElem?_getD, List.getElem?_map]
  cases its[i]? with
  | some x => rfl
  | none =>
    show iN = sweep1 s iN
    unfold sweep1; split <;> rfl
theorem IOk.sweep {its : List ItT} (h : IOk its) (s : Int) : IOk (sweep its s) := ⟨by rw [sweep_len]; exact h.1, fun i hi => by
  rw [sweep_len] at hi
  rw [sweep_get]
  unfold sweep1
  split
  · intro z; exact absurd rfl z
  · exact h.2 i hi⟩
theorem hurt_ok {l : List EntT} {its : List ItT} (h : LOk l) (hi : IOk its) (r n : Int) : LOk (hurt l its r n).1 ∧ IOk (hurt l its r n).2 ∧ (hurt l its r n).2.length = its.length := by
  unfold hurt
  split
  · exact ⟨h, hi, rfl⟩
  · rename_i q
    have ha : alive l r = true := by
      cases e : alive l r with
      | true => rfl
      | false => exact absurd (.inl e) q
    have t := h.taken ha
    split
    · rename_i q2
      refine ⟨h.set _ (.inr ?_), hi, rfl⟩
      have : 1 ≤ n := by omega
      show 1 ≤ kd (l.getD r.toNat eN) ∧ kd (l.getD r.toNat eN) ≤ 4 ∧ 1 ≤ hp (l.getD r.toNat eN) - n ∧ hp (l.getD r.toNat eN) - n ≤ mxh (l.getD r.toNat eN) ∧ mxh (l.getD r.toNat eN) ≤ 20 ∧ 0 ≤ atk (l.getD r.toNat eN) ∧ atk (l.getD r.toNat eN) ≤ 5 ∧ 0 ≤ df (l.getD r.toNat eN) ∧ df (l.getD r.toNat eN) ≤ 1 ∧ 0 ≤ po (l.getD r.toNat eN) ∧ po (l.getD r.toNat eN) ≤ 9 ∧ 0 ≤ sn (l.getD r.toNat eN) ∧ sn (l.getD r.toNat eN) ≤ 9
      omega
    · refine ⟨h.set _ (EOk.free _), ?_, ?_⟩
      · dsimp only
        split
        · exact hi.sweep _
        · exact hi
      · dsimp only
        split
        · exact sweep_len _ _
        · rfl
theorem leave_ok {l : List EntT} (h : LOk l) {sd fr a b k : Int} (hb : alive l b = true) : LOk (leave sd fr a b k l) := by
  have t := h.taken hb
  unfold leave
  split
  · refine h.set _ (.inr ?_)
    show 1 ≤ kd (l.getD b.toNat eN) ∧ kd (l.getD b.toNat eN) ≤ 4 ∧ 1 ≤ hp (l.getD b.toNat eN) ∧ hp (l.getD b.toNat eN) ≤ mxh (l.getD b.toNat eN) ∧ mxh (l.getD b.toNat eN) ≤ 20 ∧ 0 ≤ atk (l.getD b.toNat eN) ∧ atk (l.getD b.toNat eN) ≤ 5 ∧ 0 ≤ df (l.getD b.toNat eN) ∧ df (l.getD b.toNat eN) ≤ 1 ∧ 0 ≤ min (po (l.getD b.toNat eN) + 3) 9 ∧ min (po (l.getD b.toNat eN) + 3) 9 ≤ 9 ∧ 0 ≤ sn (l.getD b.toNat eN) ∧ sn (l.getD b.toNat eN) ≤ 9
    omega
  · split
    · split
      · refine h.set _ (.inr ?_)
        show 1 ≤ kd (l.getD b.toNat eN) ∧ kd (l.getD b.toNat eN) ≤ 4 ∧ 1 ≤ hp (l.getD b.toNat eN) ∧ hp (l.getD b.toNat eN) ≤ mxh (l.getD b.toNat eN) ∧ mxh (l.getD b.toNat eN) ≤ 20 ∧ 0 ≤ atk (l.getD b.toNat eN) ∧ atk (l.getD b.toNat eN) ≤ 5 ∧ 0 ≤ df (l.getD b.toNat eN) ∧ df (l.getD b.toNat eN) ≤ 1 ∧ 0 ≤ po (l.getD b.toNat eN) ∧ po (l.getD b.toNat eN) ≤ 9 ∧ 0 ≤ min (sn (l.getD b.toNat eN) + 2) 9 ∧ min (sn (l.getD b.toNat eN) + 2) 9 ≤ 9
        omega
      · exact h
    · exact h
theorem hit_ok {l : List EntT} {its : List ItT} (h : LOk l) (hi : IOk its) (sd fr a b : Int) : LOk (hit sd fr l its a b).1 ∧ IOk (hit sd fr l its a b).2 ∧ (hit sd fr l its a b).2.length = its.length := by
  unfold hit
  have k := hurt_ok h hi b (blow sd fr a b l its)
  split
  · exact ⟨h, hi, rfl⟩
  · split
    · exact k
    · rename_i q
      exact ⟨leave_ok k.1 (by cases e : alive (hurt l its b (blow sd fr a b l its)).1 b with | true => rfl | false => exact absurd e q), k.2⟩
theorem ail1_ok {l : List EntT} {its : List ItT} (h : LOk l) (hi : IOk its) (i : Nat) : LOk (ail1 l its i).1 ∧ IOk (ail1 l its i).2 ∧ (ail1 l its i).2.length = its.length := by
  unfold ail1
  split
  · exact ⟨h, hi, rfl⟩
  · rename_i q
    have ha : alive l i = true := by cases e : alive l i with | true => rfl | false => exact absurd e q
    have t := h.taken ha
    rw [Int.toNat_natCast] at t
    have h1 : LOk (if 0 < sn (l.getD i eN) then l.set i (setSn (l.getD i eN) (sn (l.getD i eN) - 1)) else l) := by
      split
      · refine h.set _ (.inr ?_)
        show 1 ≤ kd (l.getD i eN) ∧ kd (l.getD i eN) ≤ 4 ∧ 1 ≤ hp (l.getD i eN) ∧ hp (l.getD i eN) ≤ mxh (l.getD i eN) ∧ mxh (l.getD i eN) ≤ 20 ∧ 0 ≤ atk (l.getD i eN) ∧ atk (l.getD i eN) ≤ 5 ∧ 0 ≤ df (l.getD i eN) ∧ df (l.getD i eN) ≤ 1 ∧ 0 ≤ po (l.getD i eN) ∧ po (l.getD i eN) ≤ 9 ∧ 0 ≤ sn (l.getD i eN) - 1 ∧ sn (l.getD i eN) - 1 ≤ 9
        omega
      · exact h
    have ha1 : kd ((if 0 < sn (l.getD i eN) then l.set i (setSn (l.getD i eN) (sn (l.getD i eN) - 1)) else l).getD i eN) ≠ 0 := by
      have hl := h.len
      obtain ⟨_, q1, q2⟩ := alive_iff.1 ha
      rw [Int.toNat_natCast] at q2
      split
      · rw [getD_set' _ _ _ _ _ (by omega), if_pos rfl]; exact q2
      · exact q2
    have hi32 : i < 32 := by
      have hl := h.len
      have := (alive_iff.1 ha).2.1
      omega
    dsimp only
    generalize (if 0 < sn (l.getD i eN) then l.set i (setSn (l.getD i eN) (sn (l.getD i eN) - 1)) else l) = l1 at *
    split
    · rename_i q3
      refine hurt_ok (h1.set _ (.inr ?_)) hi i 1
      rcases h1.ent i hi32 with q4 | q4
      · exact absurd q4.1 ha1
      · show 1 ≤ kd (l1.getD i eN) ∧ kd (l1.getD i eN) ≤ 4 ∧ 1 ≤ hp (l1.getD i eN) ∧ hp (l1.getD i eN) ≤ mxh (l1.getD i eN) ∧ mxh (l1.getD i eN) ≤ 20 ∧ 0 ≤ atk (l1.getD i eN) ∧ atk (l1.getD i eN) ≤ 5 ∧ 0 ≤ df (l1.getD i eN) ∧ df (l1.getD i eN) ≤ 1 ∧ 0 ≤ po (l1.getD i eN) - 1 ∧ po (l1.getD i eN) - 1 ≤ 9 ∧ 0 ≤ sn (l1.getD i eN) ∧ sn (l1.getD i eN) ≤ 9
        omega
    · exact ⟨h1, hi, rfl⟩
theorem ail_ok {l : List EntT} {its : List ItT} (h : LOk l) (hi : IOk its) : ∀ n, LOk (ail l its n).1 ∧ IOk (ail l its n).2 ∧ (ail l its n).2.length = its.length
  | 0 => ⟨h, hi, rfl⟩
  | n + 1 => by
    rw [ail_succ]
    obtain ⟨a, b, c⟩ := ail_ok h hi n
    obtain ⟨a', b', c'⟩ := ail1_ok a b n
    exact ⟨a', b', by omega⟩
end
end Go.Proofs.Yteaglfpppihpjaa.Ft

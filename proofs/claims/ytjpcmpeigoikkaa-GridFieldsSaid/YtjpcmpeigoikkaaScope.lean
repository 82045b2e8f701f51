/- Laws of a scope in which the run jumps back to one label: told as a loop whose rounds are counted down. No condition beyond each statement's own. -/
import Derived.ScopeJumps
import Derived.WalkMore
import Derived.Deep.LoopGhost
namespace Go.Proofs.Ytjpcmpeigoikkaa.Q
section
variable {P : Program} {Q : Exit → Act → World → Prop}
/-- At most n jumps more are to come. -/
def Soon (P : Program) (rest : Code) (l : Nat) (Q : Exit → Act → World → Prop) : Nat → Act → World → Prop
  | 0 => fun _ _ => False
  | n + 1 => fun a w => rest.wp P (Exit.jump l (Soon P rest l Q n) Q) a w
theorem jump_imp {l : Nat} {J K : Act → World → Prop} (h : ∀ a w, J a w → K a w) : ∀ e a w, Exit.jump l J Q e a w → Exit.jump l K Q e a w := by
  intro e a w hq
  cases e with
  | goto l' => exact ⟨hq.1, h _ _ hq.2⟩
  | normal => exact hq
  | exit id => exact hq
  | ret => exact hq
  | panic ch => exact hq
  | outgrown => exact hq
theorem soon_succ {rest : Code} {l : Nat} (n : Nat) : ∀ a w, Soon P rest l Q n a w → Soon P rest l Q (n + 1) a w := by
  induction n with
  | zero => intro a w h; exact h.elim
  | succ n ih => intro a w h; exact wp_mono h (jump_imp ih)
theorem soon_le {rest : Code} {l n m : Nat} (h : n ≤ m) : ∀ a w, Soon P rest l Q n a w → Soon P rest l Q m a w := by
  induction m with
  | zero => intro a w hs; rw [Nat.le_zero.1 h] at hs; exact hs
  | succ m ih =>
    intro a w hs
    rcases Nat.lt_or_ge m n with hlt | hge
    · have : n = m + 1 := by omega
      rw [← this]; exact hs
    · exact soon_succ m a w (ih hge a w hs)
theorem wp_scope_late {c rest : Code} {a : Act} {w : World} (l : Nat) (hf : findLabel c l = some rest) (first : c.wp P (Exit.jump l (fun a w => ∃ n, Soon P rest l Q n a w) Q) a w) : (Code.scope c).wp P Q a w := by
  refine wp_scope_jumps l (fun a w => ∃ n, Soon P rest l Q n a w) (fun a w => leastOf (fun n => Soon P rest l Q n a w)) hf first ?_
  intro a w hJ
  obtain ⟨h1, _⟩ := leastOf_spec hJ
  revert h1
  cases h2 : leastOf (fun n => Soon P rest l Q n a w) with
  | zero => intro h; exact h.elim
  | succ m =>
    intro h1
    refine wp_mono h1 (jump_imp ?_)
    intro a' w' hs
    exact ⟨⟨m, hs⟩, Nat.lt_of_le_of_lt ((leastOf_spec ⟨m, hs⟩).2 m hs) (by omega)⟩
theorem wp_rest_ghost {rest : Code} {l : Nat} {es : List Value} {ds : List Deferred} {w : World} (I : List Value → Nat → Act → World → Prop) (n₀ : Nat) (h₀ : I es n₀ ⟨es.toArray, ds⟩ w)
    (round : ∀ n a w, I es n a w → ∀ (J : Nat → Act → World → Prop) (K : Act → World → Prop), (∀ k a' w', I es k a' w' → J k a' w') → (∀ a' w', Handed J n a' w' → K a' w') → rest.wp P (Exit.jump l K Q) a w) :
    rest.wp P (Exit.jump l (fun a w => ∃ n, Soon P (Code.skip.seq rest) l Q n a w) Q) ⟨es.toArray, ds⟩ w := by
  have key : ∀ n a w, I es n a w → Soon P (Code.skip.seq rest) l Q (n + 1) a w := by
    intro n
    induction n using Nat.strongRecOn with
    | _ n ih =>
      intro a w hI
      refine wp_seq (wp_skip ?_)
      refine wp_mono (round n a w hI (I es) (Handed (I es) n) (fun _ _ _ h => h) (fun _ _ h => h)) (jump_imp ?_)
      rintro a' w' ⟨n', hlt, hI'⟩
      exact soon_le (by omega) _ _ (ih n' hlt a' w' hI')
  refine wp_mono (round n₀ _ w h₀ (I es) (Handed (I es) n₀) (fun _ _ _ h => h) (fun _ _ h => h)) (jump_imp ?_)
  rintro a' w' ⟨n', _, hI'⟩
  exact ⟨n' + 1, key n' a' w' hI'⟩
end
/-- A frame of which some slots are turned. -/
def upd : List Bool → List Value → List Value → List Value
  | true :: m, u :: us, _ :: r => u :: upd m us r
  | false :: m, us, v :: r => v :: upd m us r
  | _, _, r => r
theorem upd_t (m : List Bool) (u : Value) (us : List Value) (v : Value) (r : List Value) : upd (true :: m) (u :: us) (v :: r) = u :: upd m us r := rfl
theorem upd_f (m : List Bool) (us : List Value) (v : Value) (r : List Value) : upd (false :: m) us (v :: r) = v :: upd m us r := by cases us <;> rfl
theorem upd_n (us : List Value) (r : List Value) : upd [] us r = r := by cases us <;> rfl
theorem jump_ret {Q : Exit → Act → World → Prop} {l : Nat} {J : Act → World → Prop} {a : Act} {w : World} : Exit.jump l J Q .ret a w = Q .ret a w := rfl
theorem jump_exit {Q : Exit → Act → World → Prop} {l id : Nat} {J : Act → World → Prop} {a : Act} {w : World} : Exit.jump l J Q (.exit id) a w = Q (.exit id) a w := rfl
theorem jump_normal {Q : Exit → Act → World → Prop} {l : Nat} {J : Act → World → Prop} {a : Act} {w : World} : Exit.jump l J Q .normal a w = Q .normal a w := rfl
theorem jump_panic {Q : Exit → Act → World → Prop} {l : Nat} {ch : List PanicEntry} {J : Act → World → Prop} {a : Act} {w : World} : Exit.jump l J Q (.panic ch) a w = Q (.panic ch) a w := rfl
end Go.Proofs.Ytjpcmpeigoikkaa.Q

/- The row of the law TopUndo, out of its plain law: the law answers true, whatever its arguments; they read as before (printed by a tool of this session; own work). -/
import Derived.Test.YthdgahpomhnidaaGreatRows
import Derived.Test.YthdgahpomhnidaaGreatZ7
import Derived.Test.YthdgahpomhnidaaGreatPureTopUndo
import Derived.WalkKit
import Derived.ProofKit
import Derived.OpenShut
import Derived.ShutString
import Derived.ChangeOld
import Derived.Below
import Derived.SizedLaws
import Derived.Handed
namespace Go.Proofs.YthdgahpomhnidaaGreat.topUndo
open Go.ChangeShapes Go.WideShapes Go.ChangeAt Go.RowKit Go.Proofs.YthdgahpomhnidaaGreat.Mx
set_option linter.unusedVariables false
theorem own : ownKnob Go.Proofs.Tryz.prog.godebug = none := by kernel_rfl
theorem laidOut : laidOutB Go.Proofs.Tryz.prog = true := by kernel_rfl
set_option maxRecDepth 100000 in
theorem lifted (os : Os) (started : os.Started) (H : Type) (enc : TypeId × Value → H) :
    ReturnsInHanded {} Go.Proofs.Tryz.checked os 9 .any (Rows.topUndoSpec.pre6 enc Go.Proofs.Tryz.prog Go.Proofs.Tryz.f9 Rows.topUndoRow.domain false) (Rows.topUndoSpec.post enc Go.Proofs.Tryz.prog Go.Proofs.Tryz.f9 false true false false) := by
  refine returnsInHanded_of_change_sized (C := Go.Proofs.Tryz.checked) own started (by kernel_rfl) (show Go.Proofs.Tryz.prog.funcs[9]? = some Go.Proofs.Tryz.f9 by kernel_rfl)
    (ChangeSpec.witness6 (enc := enc) (C := Go.Proofs.Tryz.checked) false ⟨#[], #[.int .i64 0, .slice none 0 0, .int .i64 0], []⟩ 8 (by kernel_rfl) (by kernel_rfl) (by kernel_rfl) (by kernel_rfl)) ?_
  intro W base args ds gs before hval0 hW hcnd hsz0 _
  have hsz : (DataW.weightsEach Go.Proofs.Tryz.prog (Go.Proofs.Tryz.f9.params.toList ++ Rows.topUndoSpec.plain.varTypes Go.Proofs.Tryz.prog) (ds ++ gs)).all (· ≤ reachBytes) = true := hsz0
  have hval : ∀ (j : Nat) t v, Go.Proofs.Tryz.f9.params[j]? = some t → args[j]? = some v → Value.okWide Go.Proofs.Tryz.prog W .any base t v := hval0
  have hW' := hW
  obtain ⟨p, q, hA0, hV, rfl, hfz, hnd⟩ := hW
  have hA : DataW.TrodAll enc Go.Proofs.Tryz.prog W 0 (fun _ => true) true Go.Proofs.Tryz.f9.params.toList args.toList ds p := hA0
  rw [show Go.Proofs.Tryz.f9.params = #[2, 38, 3] from rfl] at hA hval hsz
  obtain ⟨v0, vs0, d0, ds0, p0, q0, hargs, rfl, rfl, h0, r0⟩ := trodAll_cons hA
  obtain ⟨v1, vs1, d1, ds1, p1, q1, rfl, rfl, rfl, h1, r1⟩ := trodAll_cons r0
  obtain ⟨v2, vs2, d2, ds2, p2, q2, rfl, rfl, rfl, h2, r2⟩ := trodAll_cons r1
  obtain ⟨rfl, rfl, rfl⟩ := trodAll_nil r2
  obtain rfl : args = #[v0, v1, v2] := by cases args; simp_all
  obtain ⟨rfl, rfl⟩ := trodVars_none hV
  have k0 := h0
  have lt0 : ∀ x ∈ p0, x.block < W.heap.size := by obtain ⟨m, hm⟩ := k0; exact DataW.trod_lt m _ _ _ hm
  have u0 : Go.Proofs.Tryz.prog.underlying 2 = some (.int .i64) := by kernel_rfl
  obtain ⟨a0, w0, e0⟩ := arg_int u0 (hval 0 2 v0 rfl rfl) h0
  have k1 := h1
  have lt1 : ∀ x ∈ p1, x.block < W.heap.size := by obtain ⟨m, hm⟩ := k1; exact DataW.trod_lt m _ _ _ hm
  have u1 : Go.Proofs.Tryz.prog.underlying 38 = some (.slice 33) := by kernel_rfl
  obtain ⟨a1, w1, e1⟩ := arg_row (e := (.row (.int .i64))) (n := 40) (ro := fun b => b < W.heap.size) (fun _ h => h) u1 (by kernel_rfl) (hval 1 38 v1 rfl rfl) h1
  have z1 : a1.length * 24 ≤ 140737488351232 := arg_len hsz (j := 1) rfl rfl u1 e1 (hval 1 38 v1 rfl rfl) h1
  have k2 := h2
  have lt2 : ∀ x ∈ p2, x.block < W.heap.size := by obtain ⟨m, hm⟩ := k2; exact DataW.trod_lt m _ _ _ hm
  have u2 : Go.Proofs.Tryz.prog.underlying 3 = some (.int .i64) := by kernel_rfl
  obtain ⟨a2, w2, e2⟩ := arg_int u2 (hval 2 3 v2 rfl rfl) h2
  clear hA0 hval0 hsz0 hsz
  refine (bool_calls Run.f9.sound (show Go.Proofs.Tryz.prog.funcs[9]? = some Go.Proofs.Tryz.f9 by kernel_rfl) (show Go.Proofs.Tryz.f9.body = some ((Go.Proofs.Tryz.f9.body).getD .skip) by kernel_rfl) (by kernel_rfl) (W := W) (args := #[v0, v1, v2]) (x := (a0, a1, a2, ())) (al := [(0, .c (.int .i64 a0)), (1, .c (.row (.row (.int .i64)) a1)), (2, .c (.int .i64 a2))]) ⟨fun _ => rfl, fun _ => rfl, ⟨⟨rfl, _, rfl⟩, ⟨rfl, _, rfl⟩, ⟨rfl, _, rfl⟩, trivial⟩, trivial⟩ (Pure.TopUndo a0 w0 a1 w1 z1 a2 w2) (ArgsR.cons (v := v0) rfl e0 (ArgsR.cons (v := v1) rfl e1 (ArgsR.cons (v := v2) rfl e2 ArgsR.nil)))).mono fun e W' ⟨he, bel⟩ => ?_
  subst he
  exact ⟨_, rfl, _, _, _, [], _, [], hW', trodAll_mk1 (shut_bool (show Go.Proofs.Tryz.prog.underlying 4 = some .bool by kernel_rfl) _), (trodAll_cons_mk (Below.trod laidOut (by kernel_rfl) (of_decide_eq_true (by kernel_rfl)) k0 bel lt0) (trodAll_cons_mk (Below.trod laidOut (by kernel_rfl) (of_decide_eq_true (by kernel_rfl)) k1 bel lt1) (trodAll_cons_mk (Below.trod laidOut (by kernel_rfl) (of_decide_eq_true (by kernel_rfl)) k2 bel lt2) trodAll_mk0))), rfl, bel.frame _, fun h => by cases h⟩
theorem over : Rows.topUndoRow.holds Tryz.pinned (OpenSpec.ofChange Rows.topUndoSpec) :=
  OpenClaim.holds_of_wide 9 Go.Proofs.Tryz.f9 rfl rfl rfl rfl rfl rfl rfl ⟨rfl, rfl, rfl, rfl, rfl⟩ rfl rfl rfl rfl rfl (by kernel_rfl) (show Go.Proofs.Tryz.prog.funcs[9]? = some Go.Proofs.Tryz.f9 by kernel_rfl) (by kernel_rfl)
    (of_decide_eq_true (by kernel_rfl)) (by unfold Func.isWrapper; first | (rw [if_pos (by decide +kernel)]; kernel_rfl) | (rw [if_neg (by decide +kernel)]; exact ⟨rfl, rfl⟩))
    (fun os started H enc _ => lifted os started H enc)
theorem proved : Rows.TopUndoSaid := over
#print axioms proved
end Go.Proofs.YthdgahpomhnidaaGreat.topUndo
namespace Go.Proofs.YthdgahpomhnidaaGreat
/-- The row, under a short name, for the claim. -/
theorem topUndo_holds : Rows.TopUndoSaid := topUndo.proved
end Go.Proofs.YthdgahpomhnidaaGreat

/- The row of the law ChunkComes, out of its plain law: the law answers true, whatever its arguments; they read as before (printed by a tool of this session; own work). -/
import Derived.Test.YtmffnlcmklapmaaRows
import Derived.Test.YtmffnlcmklapmaaMxV
import Derived.Test.YtmffnlcmklapmaaPureChunkComes
import Derived.WalkKit
import Derived.ProofKit
import Derived.OpenShut
import Derived.ShutString
import Derived.ChangeOld
import Derived.Below
import Derived.SizedLaws
import Derived.Handed
namespace Go.Proofs.Ytmffnlcmklapmaa.chunkComes
open Go.ChangeShapes Go.WideShapes Go.ChangeAt Go.RowKit Go.Proofs.Ytmffnlcmklapmaa.Mx
set_option linter.unusedVariables false
theorem own : ownKnob Go.Proofs.Try.prog.godebug = none := by kernel_rfl
theorem laidOut : laidOutB Go.Proofs.Try.prog = true := by kernel_rfl
set_option maxRecDepth 100000 in
theorem lifted (os : Os) (started : os.Started) (H : Type) (enc : TypeId × Value → H) :
    ReturnsInHanded {} Go.Proofs.Try.checked os 5 .any (Rows.chunkComesSpec.pre6 enc Go.Proofs.Try.prog Go.Proofs.Try.f5 Rows.chunkComesRow.domain false) (Rows.chunkComesSpec.post enc Go.Proofs.Try.prog Go.Proofs.Try.f5 false true false false) := by
  refine returnsInHanded_of_change_sized (C := Go.Proofs.Try.checked) own started (by kernel_rfl) (show Go.Proofs.Try.prog.funcs[5]? = some Go.Proofs.Try.f5 by kernel_rfl)
    (ChangeSpec.witness6 (enc := enc) (C := Go.Proofs.Try.checked) false ⟨#[], #[.slice none 0 0, .int .i64 0, .slice none 0 0, .slice none 0 0], []⟩ 8 (by kernel_rfl) (by kernel_rfl) (by kernel_rfl) (by kernel_rfl)) ?_
  intro W base args ds gs before hval0 hW hcnd hsz0 _
  have hsz : (DataW.weightsEach Go.Proofs.Try.prog (Go.Proofs.Try.f5.params.toList ++ Rows.chunkComesSpec.plain.varTypes Go.Proofs.Try.prog) (ds ++ gs)).all (· ≤ reachBytes) = true := hsz0
  have hval : ∀ (j : Nat) t v, Go.Proofs.Try.f5.params[j]? = some t → args[j]? = some v → Value.okWide Go.Proofs.Try.prog W .any base t v := hval0
  have hW' := hW
  obtain ⟨p, q, hA0, hV, rfl, hfz, hnd⟩ := hW
  have hA : DataW.TrodAll enc Go.Proofs.Try.prog W 0 (fun _ => true) true Go.Proofs.Try.f5.params.toList args.toList ds p := hA0
  rw [show Go.Proofs.Try.f5.params = #[28, 3, 45, 45] from rfl] at hA hval hsz
  obtain ⟨v0, vs0, d0, ds0, p0, q0, hargs, rfl, rfl, h0, r0⟩ := trodAll_cons hA
  obtain ⟨v1, vs1, d1, ds1, p1, q1, rfl, rfl, rfl, h1, r1⟩ := trodAll_cons r0
  obtain ⟨v2, vs2, d2, ds2, p2, q2, rfl, rfl, rfl, h2, r2⟩ := trodAll_cons r1
  obtain ⟨v3, vs3, d3, ds3, p3, q3, rfl, rfl, rfl, h3, r3⟩ := trodAll_cons r2
  obtain ⟨rfl, rfl, rfl⟩ := trodAll_nil r3
  obtain rfl : args = #[v0, v1, v2, v3] := by cases args; simp_all
  obtain ⟨rfl, rfl⟩ := trodVars_none hV
  have k0 := h0
  have lt0 : ∀ x ∈ p0, x.block < W.heap.size := by obtain ⟨m, hm⟩ := k0; exact DataW.trod_lt m _ _ _ hm
  have u0 : Go.Proofs.Try.prog.underlying 28 = some (.slice 5) := by kernel_rfl
  obtain ⟨a0, w0, e0⟩ := arg_row (e := (.int .u8)) (n := 40) (ro := fun b => b < W.heap.size) (fun _ h => h) u0 (by kernel_rfl) (hval 0 28 v0 rfl rfl) h0
  have z0 : a0.length * 1 ≤ 140737488351232 := arg_len hsz (j := 0) rfl rfl u0 e0 (hval 0 28 v0 rfl rfl) h0
  have k1 := h1
  have lt1 : ∀ x ∈ p1, x.block < W.heap.size := by obtain ⟨m, hm⟩ := k1; exact DataW.trod_lt m _ _ _ hm
  have u1 : Go.Proofs.Try.prog.underlying 3 = some (.int .i64) := by kernel_rfl
  obtain ⟨a1, w1, e1⟩ := arg_int u1 (hval 1 3 v1 rfl rfl) h1
  have k2 := h2
  have lt2 : ∀ x ∈ p2, x.block < W.heap.size := by obtain ⟨m, hm⟩ := k2; exact DataW.trod_lt m _ _ _ hm
  have u2 : Go.Proofs.Try.prog.underlying 45 = some (.slice 4) := by kernel_rfl
  obtain ⟨a2, w2, e2⟩ := arg_row (e := .bool) (n := 40) (ro := fun b => b < W.heap.size) (fun _ h => h) u2 (by kernel_rfl) (hval 2 45 v2 rfl rfl) h2
  have z2 : a2.length * 1 ≤ 140737488351232 := arg_len hsz (j := 2) rfl rfl u2 e2 (hval 2 45 v2 rfl rfl) h2
  have k3 := h3
  have lt3 : ∀ x ∈ p3, x.block < W.heap.size := by obtain ⟨m, hm⟩ := k3; exact DataW.trod_lt m _ _ _ hm
  have u3 : Go.Proofs.Try.prog.underlying 45 = some (.slice 4) := by kernel_rfl
  obtain ⟨a3, w3, e3⟩ := arg_row (e := .bool) (n := 40) (ro := fun b => b < W.heap.size) (fun _ h => h) u3 (by kernel_rfl) (hval 3 45 v3 rfl rfl) h3
  have z3 : a3.length * 1 ≤ 140737488351232 := arg_len hsz (j := 3) rfl rfl u3 e3 (hval 3 45 v3 rfl rfl) h3
  clear hA0 hval0 hsz0 hsz
  refine (bool_calls Run.f5.sound (show Go.Proofs.Try.prog.funcs[5]? = some Go.Proofs.Try.f5 by kernel_rfl) (show Go.Proofs.Try.f5.body = some ((Go.Proofs.Try.f5.body).getD .skip) by kernel_rfl) (by kernel_rfl) (W := W) (args := #[v0, v1, v2, v3]) (x := (a0, a1, a2, a3, ())) (al := [(0, .c (.row (.int .u8) a0)), (1, .c (.int .i64 a1)), (2, .c (.row .bool a2)), (3, .c (.row .bool a3))]) ⟨fun _ => rfl, fun _ => rfl, ⟨⟨rfl, _, rfl⟩, ⟨rfl, _, rfl⟩, ⟨rfl, _, rfl⟩, ⟨rfl, _, rfl⟩, trivial⟩, trivial⟩ (Pure.ChunkComes a0 w0 z0 a1 w1 a2 w2 z2 a3 w3 z3) (ArgsR.cons (v := v0) rfl e0 (ArgsR.cons (v := v1) rfl e1 (ArgsR.cons (v := v2) rfl e2 (ArgsR.cons (v := v3) rfl e3 ArgsR.nil))))).mono fun e W' ⟨he, bel⟩ => ?_
  subst he
  exact ⟨_, rfl, _, _, _, [], _, [], hW', trodAll_mk1 (shut_bool (show Go.Proofs.Try.prog.underlying 4 = some .bool by kernel_rfl) _), (trodAll_cons_mk (Below.trod laidOut (by kernel_rfl) (of_decide_eq_true (by kernel_rfl)) k0 bel lt0) (trodAll_cons_mk (Below.trod laidOut (by kernel_rfl) (of_decide_eq_true (by kernel_rfl)) k1 bel lt1) (trodAll_cons_mk (Below.trod laidOut (by kernel_rfl) (of_decide_eq_true (by kernel_rfl)) k2 bel lt2) (trodAll_cons_mk (Below.trod laidOut (by kernel_rfl) (of_decide_eq_true (by kernel_rfl)) k3 bel lt3) trodAll_mk0)))), rfl, bel.frame _, fun h => by cases h⟩
theorem over : Rows.chunkComesRow.holds Try.pinned (OpenSpec.ofChange Rows.chunkComesSpec) :=
  OpenClaim.holds_of_wide 5 Go.Proofs.Try.f5 rfl rfl rfl rfl rfl rfl rfl ⟨rfl, rfl, rfl, rfl, rfl⟩ rfl rfl rfl rfl rfl (by kernel_rfl) (show Go.Proofs.Try.prog.funcs[5]? = some Go.Proofs.Try.f5 by kernel_rfl) (by kernel_rfl)
    (of_decide_eq_true (by kernel_rfl)) (by unfold Func.isWrapper; first | (rw [if_pos (by decide +kernel)]; kernel_rfl) | (rw [if_neg (by decide +kernel)]; exact ⟨rfl, rfl⟩))
    (fun os started H enc _ => lifted os started H enc)
theorem proved : Rows.ChunkComesSaid := over
#print axioms proved
end Go.Proofs.Ytmffnlcmklapmaa.chunkComes
namespace Go.Proofs.Ytmffnlcmklapmaa
/-- The row, under a short name, for the claim. -/
theorem chunkComes_holds : Rows.ChunkComesSaid := chunkComes.proved
end Go.Proofs.Ytmffnlcmklapmaa

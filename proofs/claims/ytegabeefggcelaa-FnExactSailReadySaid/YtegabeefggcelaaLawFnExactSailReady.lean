/- The program's SailReady answers as the reference's does, for all steps and all that is done; it keeps nothing of its arguments. No condition. -/
import Derived.Test.YtegabeefggcelaaRows
import Derived.Test.YtegabeefggcelaaOpen
import Derived.Test.YtegabeefggcelaaWalkSailReady
import Derived.WalkKit
import Derived.ProofKit
import Derived.OpenShut
import Derived.ShutString
import Derived.ChangeOld
import Derived.Below
import Derived.SizedLaws
import Derived.Carry
namespace Go.Proofs.Ytegabeefggcelaa.fnExactSailReady
open Go.ChangeShapes Go.WideShapes Go.ChangeAt Go.RowKit Go.Proofs.Ytegabeefggcelaa.Lib
open Go.ChangeMaps (open_string shut_string)
set_option linter.unusedVariables false
set_option linter.unusedSimpArgs false
theorem own : ownKnob Try.prog.godebug = none := by kernel_rfl
theorem laidOut : laidOutB Try.prog = true := by kernel_rfl
set_option maxRecDepth 100000 in
theorem lifted (os : Os) (started : os.Started) (H : Type) (enc : TypeId × Value → H) :
    ReturnsInHanded {} Try.checked os 6 .any (Rows.fnExactSailReadySpec.pre6 enc Try.prog Try.f6 Rows.fnExactSailReadyRow.domain false) (Rows.fnExactSailReadySpec.post enc Try.prog Try.f6 false true false false) := by
  refine returnsInHanded_of_change_sized (C := Try.checked) own started (by kernel_rfl) Try.func6
    (ChangeSpec.witness6 (enc := enc) (C := Try.checked) false ⟨#[], #[.slice none 0 0, .slice none 0 0], []⟩ 8 (by kernel_rfl) (by kernel_rfl) (by kernel_rfl) (by kernel_rfl)) ?_
  intro W base args ds gs before hval0 hW hcnd hsz0 _
  have hval : ∀ (j : Nat) t v, Try.f6.params[j]? = some t → args[j]? = some v → Value.okWide Try.prog W .any base t v := hval0
  have hW' := hW
  obtain ⟨p, q, hA0, hV, rfl, hfz, hnd⟩ := hW
  have hA : DataW.TrodAll enc Try.prog W 0 (fun _ => true) true Try.f6.params.toList args.toList ds p := hA0
  rw [Try.params6] at hA hval
  obtain ⟨v0, vs0, d0, ds0, p0, q0, hargs, rfl, rfl, h0, r0⟩ := trodAll_cons hA
  obtain ⟨v1, vs1, d1, ds1, p1, q1, rfl, rfl, rfl, h1, r1⟩ := trodAll_cons r0
  obtain ⟨rfl, rfl, rfl⟩ := trodAll_nil r1
  obtain rfl : args = #[v0, v1] := by cases args; simp_all
  obtain ⟨rfl, rfl⟩ := trodVars_none hV
  have k0 := h0
  have lt0 : ∀ x ∈ p0, x.block < W.heap.size := by obtain ⟨m, hm⟩ := k0; exact DataW.trod_lt m _ _ _ hm
  obtain ⟨A0, n0, c0, rfl⟩ := okWide_slice Try.underlying36 (hval 0 36 v0 rfl rfl)
  obtain ⟨a0, g0, w0⟩ := (fun (x : DataW.Trod enc Try.prog W 0 (fun _ => true) true 36 (.slice A0 n0 c0) d0 p0) => x.elim fun fu hf => op_StepS fu _ _ hf) h0
  obtain ⟨_, _, hg0, g0, _⟩ := RdL.cons_inv g0
  simp only [Value.cells, List.cons.injEq, and_true] at hg0
  obtain ⟨rfl, rfl⟩ := hg0
  have k1 := h1
  have lt1 : ∀ x ∈ p1, x.block < W.heap.size := by obtain ⟨m, hm⟩ := k1; exact DataW.trod_lt m _ _ _ hm
  obtain ⟨A1, n1, c1, rfl⟩ := okWide_slice Try.underlying37 (hval 1 37 v1 rfl rfl)
  obtain ⟨a1, g1, w1⟩ := (fun (x : DataW.Trod enc Try.prog W 0 (fun _ => true) true 37 (.slice A1 n1 c1) d1 p1) => x.elim fun fu hf => op_intS fu _ _ hf) h1
  obtain ⟨_, _, hg1, g1, _⟩ := RdL.cons_inv g1
  simp only [Value.cells, List.cons.injEq, and_true] at hg1
  obtain ⟨rfl, rfl⟩ := hg1
  clear hA0 hval0 hsz0
  refine (FnExactSailReady_walk a0 a1 W g0 w0 g1 w1).mono fun e W' ⟨he, bel⟩ => ?_
  subst he
  exact ⟨_, rfl, _, _, _, [], _, [], hW', trodAll_mk1 (shut_bool Try.underlying4 _), (trodAll_cons_mk (Below.trod laidOut (by kernel_rfl) (of_decide_eq_true (by kernel_rfl)) k0 bel lt0) (trodAll_cons_mk (Below.trod laidOut (by kernel_rfl) (of_decide_eq_true (by kernel_rfl)) k1 bel lt1) trodAll_mk0)), rfl, bel.frame _, fun h => by cases h⟩
theorem over : Rows.fnExactSailReadyRow.holds Try.pinned (OpenSpec.ofChange Rows.fnExactSailReadySpec) :=
  OpenClaim.holds_of_wide 6 Try.f6 rfl rfl rfl rfl rfl rfl rfl ⟨rfl, rfl, rfl, rfl, rfl⟩ rfl rfl rfl rfl rfl (by kernel_rfl) Try.func6 (by kernel_rfl)
    (of_decide_eq_true (by kernel_rfl)) (by unfold Func.isWrapper; first | (rw [if_pos (by decide +kernel)]; kernel_rfl) | (rw [if_neg (by decide +kernel)]; exact ⟨rfl, rfl⟩))
    (fun os started H enc _ => lifted os started H enc)
theorem proved : Rows.FnExactSailReadySaid := over
#print axioms proved
end Go.Proofs.Ytegabeefggcelaa.fnExactSailReady
namespace Go.Proofs.Ytegabeefggcelaa
/-- The row, under a short name, for the claim. -/
theorem fnExactSailReady_holds : Rows.FnExactSailReadySaid := fnExactSailReady.proved
end Go.Proofs.Ytegabeefggcelaa

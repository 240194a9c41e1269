/-
  'Rows.BuildTakesSaid' ('wordview/law.BuildTakes'): the row's step.
-/
import Derived.Test.YgcfaaRows
import Derived.Test.YgcfaaTakes8b
import Derived.Test.YgcfaaInvTie
import Derived.Test.YgcfaaScript2
import Derived.WalkKit
import Derived.ProofKit
import Derived.OpenShut
import Derived.ShutString
import Derived.ChangeOld
import Derived.Below
import Derived.SizedLaws
namespace Go.Proofs.Ygcfaa.buildTakes
open Go.ChangeShapes Go.WideShapes Go.ChangeAt Go.RowKit
set_option linter.unusedVariables false

theorem own : ownKnob Faag.prog.godebug = none := by kernel_rfl
theorem laidOut : laidOutB Faag.prog = true := by kernel_rfl

set_option maxRecDepth 100000 in
theorem lifted (os : Os) (started : os.Started) (H : Type) (enc : TypeId × Value → H) :
    ReturnsInHanded {} Faag.checked os 8 .any (Rows.buildTakesSpec.pre6 enc Faag.prog Faag.f8 Rows.buildTakesRow.domain false) (Rows.buildTakesSpec.post enc Faag.prog Faag.f8 false true false false) := by
  refine returnsInHanded_of_change_sized (C := Faag.checked) own started (by kernel_rfl) Faag.func8
    (ChangeSpec.witness6 (enc := enc) (C := Faag.checked) false ⟨#[], #[.slice none 0 0], []⟩ 8 (by kernel_rfl) (by kernel_rfl) (by kernel_rfl) (by kernel_rfl)) ?_
  intro W base args ds gs before hval0 hW hcnd hsz0 _
  have hval : ∀ (j : Nat) t v, Faag.f8.params[j]? = some t → args[j]? = some v → Value.okWide Faag.prog W .any base t v := hval0
  have hsz : (DataW.weightsEach Faag.prog (Faag.f8.params.toList ++ Rows.buildTakesSpec.plain.varTypes Faag.prog) (ds ++ gs)).all (· ≤ reachBytes) = true := hsz0
  have hW' := hW
  obtain ⟨p, q, hA0, hV, rfl, hfz, hnd⟩ := hW
  have hA : DataW.TrodAll enc Faag.prog W 0 (fun _ => true) true Faag.f8.params.toList args.toList ds p := hA0
  rw [Faag.params8] at hA hval hsz
  obtain ⟨v0, vs0, d0, ds0, p0, q0, hargs, rfl, rfl, h0, r0⟩ := trodAll_cons hA
  obtain ⟨rfl, rfl, rfl⟩ := trodAll_nil r0
  obtain rfl : args = #[v0] := by cases args; simp_all
  obtain ⟨rfl, rfl⟩ := trodVars_none hV
  have k0 := h0
  have lt0 : ∀ x ∈ p0, x.block < W.heap.size := by obtain ⟨m, hm⟩ := k0; exact DataW.trod_lt m _ _ _ hm
  obtain ⟨a, len, cap, ops, rfl, hl, hc, hops, hcells⟩ := open_script2 (hval 0 40 v0 rfl rfl) h0
  have hops2 : ∀ i, i < len → (ops i).Ok ∧ (ops i).s.size ≤ 140737488355328 := fun i hi => by
    refine ⟨(hops i hi).1, ?_⟩
    have h1 := List.all_eq_true.1 hsz _ (DataW.weights_mem_each (j := 0) (t := 40) (d := d0) rfl rfl _ (hops i hi).2)
    have h2 : (ops i).s.size ≤ reachBytes := by simpa using h1
    unfold reachBytes at h2
    omega
  have hcall := buildTakes_calls tie a len cap hl hc ops W hops2 hcells
  clear hA0 hval0
  refine hcall.mono fun e W' ⟨he, bel⟩ => ?_
  subst he
  exact ⟨_, rfl, _, _, _, [], _, [], hW', trodAll_mk1 (shut_bool Faag.underlying4 _),
    (trodAll_cons_mk (Below.trod laidOut (by kernel_rfl) (of_decide_eq_true (by kernel_rfl)) k0 bel lt0) trodAll_mk0), rfl, bel.frame _, fun h => by cases h⟩

theorem over : Rows.buildTakesRow.holds Faag.pinned (OpenSpec.ofChange Rows.buildTakesSpec) :=
  OpenClaim.holds_of_wide 8 Faag.f8 rfl rfl rfl rfl rfl rfl rfl ⟨rfl, rfl, rfl, rfl, rfl⟩ rfl rfl rfl rfl rfl (by kernel_rfl) Faag.func8 (by kernel_rfl)
    (of_decide_eq_true (by kernel_rfl)) (by unfold Func.isWrapper; first | (rw [if_pos (by decide +kernel)]; kernel_rfl) | (rw [if_neg (by decide +kernel)]; exact ⟨rfl, rfl⟩))
    (fun os started H enc _ => lifted os started H enc)
end Go.Proofs.Ygcfaa.buildTakes

namespace Go.Proofs.Ygcfaa
/-- THE STATEMENT. -/
theorem buildTakes_proved : Rows.BuildTakesSaid := buildTakes.over
end Go.Proofs.Ygcfaa

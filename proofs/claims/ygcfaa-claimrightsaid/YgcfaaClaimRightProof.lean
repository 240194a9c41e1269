/-
  'Rows.ClaimRightSaid' ('wordview/law.ClaimRight'): the row's step, after the guide's own way for 'Below'.
-/
import Derived.Test.YgcfaaRows
import Derived.Test.YgcfaaClaimRight
import Derived.WalkKit
import Derived.ProofKit
import Derived.OpenShut
import Derived.ShutString
import Derived.ChangeOld
import Derived.Below
import Derived.Laws.IdiomArrays
namespace Go.Proofs.Ygcfaa.claimRight
open Go.ChangeShapes Go.WideShapes Go.ChangeAt Go.RowKit
open Go.ChangeMaps (open_string shut_string)
set_option linter.unusedVariables false

theorem own : ownKnob Faag.prog.godebug = none := by kernel_rfl
theorem laidOut : laidOutB Faag.prog = true := by kernel_rfl
theorem cells35 : Faag.prog.cellsOf 35 = 4 := by kernel_rfl
theorem cells22 : Faag.prog.cellsOf 22 = 1 := by kernel_rfl

theorem list4 {α : Type} (l : List α) (h : l.length = 4) : ∃ a b c d, l = [a, b, c, d] := by
  match l, h with
  | [a, b, c, d], _ => exact ⟨a, b, c, d, rfl⟩

set_option maxRecDepth 100000 in
theorem lifted (os : Os) (started : os.Started) (H : Type) (enc : TypeId × Value → H) :
    ReturnsInHanded {} Faag.checked os 6 .any (Rows.claimRightSpec.pre6 enc Faag.prog Faag.f6 Rows.claimRightRow.domain false) (Rows.claimRightSpec.post enc Faag.prog Faag.f6 false true false false) := by
  refine returnsInHanded_of_change (C := Faag.checked) own started (by kernel_rfl) Faag.func6
    (ChangeSpec.witness6 (enc := enc) (C := Faag.checked) false ⟨#[], #[.agg #[.int .u64 0, .int .u64 0, .int .u64 0, .int .u64 0], .int .u16 0, .int .u16 0], []⟩ 8 (by kernel_rfl) (by kernel_rfl) (by kernel_rfl) (by kernel_rfl)) ?_
  intro W base args ds gs before hval0 hW hcnd _
  have hval : ∀ (j : Nat) t v, Faag.f6.params[j]? = some t → args[j]? = some v → Value.okWide Faag.prog W .any base t v := hval0
  have hW' := hW
  obtain ⟨p, q, hA0, hV, rfl, hfz, hnd⟩ := hW
  have hA : DataW.TrodAll enc Faag.prog W 0 (fun _ => true) true Faag.f6.params.toList args.toList ds p := hA0
  rw [Faag.params6] at hA hval
  obtain ⟨v0, vs0, d0, ds0, p0, q0, hargs, rfl, rfl, h0, r0⟩ := trodAll_cons hA
  obtain ⟨v1, vs1, d1, ds1, p1, q1, rfl, rfl, rfl, h1, r1⟩ := trodAll_cons r0
  obtain ⟨v2, vs2, d2, ds2, p2, q2, rfl, rfl, rfl, h2, r2⟩ := trodAll_cons r1
  obtain ⟨rfl, rfl, rfl⟩ := trodAll_nil r2
  obtain rfl : args = #[v0, v1, v2] := by cases args; simp_all
  obtain ⟨rfl, rfl⟩ := trodVars_none hV
  have k0 := h0
  have k1 := h1
  have k2 := h2
  have lt0 : ∀ x ∈ p0, x.block < W.heap.size := by obtain ⟨m, hm⟩ := k0; exact DataW.trod_lt m _ _ _ hm
  have lt1 : ∀ x ∈ p1, x.block < W.heap.size := by obtain ⟨m, hm⟩ := k1; exact DataW.trod_lt m _ _ _ hm
  have lt2 : ∀ x ∈ p2, x.block < W.heap.size := by obtain ⟨m, hm⟩ := k2; exact DataW.trod_lt m _ _ _ hm
  obtain ⟨cs, rfl, hsz, _⟩ : ∃ cs, v0 = .agg cs ∧ cs.size = Faag.prog.cellsOf 35 ∧ Row.okWide Faag.prog W .any base 35 cs := by
    have := hval 0 35 v0 rfl rfl
    simpa [Value.okWide, Faag.underlying35] using this
  rw [cells35] at hsz
  obtain ⟨l⟩ := cs
  obtain ⟨c0, c1, c2, c3, rfl⟩ := list4 l hsz
  obtain ⟨x0, x1, x2, x3, hc, hb⟩ : ∃ x0 x1 x2 x3 : Nat, ((⟨[c0, c1, c2, c3]⟩ : Array Value) = #[.int .u64 x0, .int .u64 x1, .int .u64 x2, .int .u64 x3] ∧ ∀ y ∈ [x0, x1, x2, x3], y < 18446744073709551616) := by
    obtain ⟨fuel, hf⟩ := h0
    obtain ⟨y0, y1, y2, y3, m, hx, hy0, hy1, hy2, hy3⟩ := trod_array4 Faag.underlying35 cells22 hf
    obtain ⟨x0, e0, _, w0⟩ := DataW.trod_int Faag.underlying22 hy0
    obtain ⟨x1, e1, _, w1⟩ := DataW.trod_int Faag.underlying22 hy1
    obtain ⟨x2, e2, _, w2⟩ := DataW.trod_int Faag.underlying22 hy2
    obtain ⟨x3, e3, _, w3⟩ := DataW.trod_int Faag.underlying22 hy3
    simp at e0 e1 e2 e3
    subst e0 e1 e2 e3
    have b0 := bounds_u64 w0
    have b1 := bounds_u64 w1
    have b2 := bounds_u64 w2
    have b3 := bounds_u64 w3
    obtain ⟨n0, rfl⟩ := Int.eq_ofNat_of_zero_le b0.1
    obtain ⟨n1, rfl⟩ := Int.eq_ofNat_of_zero_le b1.1
    obtain ⟨n2, rfl⟩ := Int.eq_ofNat_of_zero_le b2.1
    obtain ⟨n3, rfl⟩ := Int.eq_ofNat_of_zero_le b3.1
    refine ⟨n0, n1, n2, n3, rfl, ?_⟩
    intro y hy
    simp at hy
    omega
  obtain ⟨a1, rfl, rfl, rfl, w1⟩ := open_int Faag.underlying36 (hval 1 36 v1 rfl rfl) h1
  obtain ⟨a2, rfl, rfl, rfl, w2⟩ := open_int Faag.underlying36 (hval 2 36 v2 rfl rfl) h2
  have b1 := bounds_u16 w1
  have b2 := bounds_u16 w2
  obtain ⟨m1, rfl⟩ := Int.eq_ofNat_of_zero_le b1.1
  obtain ⟨m2, rfl⟩ := Int.eq_ofNat_of_zero_le b2.1
  have hcall := claimRight_calls m1 m2 (by omega) (by omega) x0 x1 x2 x3 hb W
  rw [← hc] at hcall
  clear hA0 hval0
  refine hcall.mono fun e W' ⟨he, bel⟩ => ?_
  subst he
  exact ⟨_, rfl, _, _, _, [], _, [], hW', trodAll_mk1 (shut_bool Faag.underlying4 _),
    (trodAll_cons_mk (Below.trod laidOut (by kernel_rfl) (of_decide_eq_true (by kernel_rfl)) k0 bel lt0)
      (trodAll_cons_mk (Below.trod laidOut (by kernel_rfl) (of_decide_eq_true (by kernel_rfl)) k1 bel lt1)
        (trodAll_cons_mk (Below.trod laidOut (by kernel_rfl) (of_decide_eq_true (by kernel_rfl)) k2 bel lt2) trodAll_mk0))), rfl, bel.frame _, fun h => by cases h⟩

theorem over : Rows.claimRightRow.holds Faag.pinned (OpenSpec.ofChange Rows.claimRightSpec) :=
  OpenClaim.holds_of_wide 6 Faag.f6 rfl rfl rfl rfl rfl rfl rfl ⟨rfl, rfl, rfl, rfl, rfl⟩ rfl rfl rfl rfl rfl (by kernel_rfl) Faag.func6 (by kernel_rfl)
    (of_decide_eq_true (by kernel_rfl)) (by unfold Func.isWrapper; first | (rw [if_pos (by decide +kernel)]; kernel_rfl) | (rw [if_neg (by decide +kernel)]; exact ⟨rfl, rfl⟩))
    (fun os started H enc _ => lifted os started H enc)
end Go.Proofs.Ygcfaa.claimRight

namespace Go.Proofs.Ygcfaa
/-- THE STATEMENT. -/
theorem claimRight_proved : Rows.ClaimRightSaid := claimRight.over
end Go.Proofs.Ygcfaa

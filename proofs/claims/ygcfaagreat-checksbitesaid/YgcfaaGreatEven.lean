import Derived.Test.YgcfaaGreatRoom
namespace Go.Proofs.YgcfaaGreat
open Go.RowKit Bits Bd
set_option linter.unusedVariables false
set_option maxRecDepth 100000
set_option linter.unusedSimpArgs false
attribute [local go_sem] World.cell?_ext World.frozen?_ext

set_option maxHeartbeats 4000000 in
theorem even_calls {w : World} {p : Nat} {h : Nat → Value} {B : Bld} (hb : HB w p h B) (hA : B.A.length ≤ 140737488355328) (hO : B.obj.length ≤ 140737488355328) : Calls Faag.prog 17 #[.pointer (some ⟨p, 0, none⟩)] w fun e w' => RetB e (evenP B) ∧ w' = w := by
  obtain ⟨a0, c0, k0, _⟩ := hb.lens 0 (by omega)
  obtain ⟨a1, c1, k1, _⟩ := hb.lens 1 (by omega)
  obtain ⟨a2, c2, k2, _⟩ := hb.lens 2 (by omega)
  obtain ⟨a3, c3, k3, _⟩ := hb.lens 3 (by omega)
  obtain ⟨a4, c4, k4, _⟩ := hb.lens 4 (by omega)
  obtain ⟨a5, c5, k5, _⟩ := hb.lens 5 (by omega)
  simp only [fOff, Bld.len, Nat.reduceAdd] at k0 k1 k2 k3 k4 k5
  unfold evenP
  clear hb
  generalize B.A.length = n0 at *
  generalize B.obj.length = n1 at *
  generalize B.up.length = n2 at *
  generalize B.via.length = n3 at *
  generalize B.depth.length = n4 at *
  generalize B.dead.length = n5 at *
  go_enter Faag.func17, Faag.ntmps17
  go_wp2_with fail
  all_goals
    go_ret
    refine ⟨RetB.of ?_, rfl⟩
    simp only [Bool.and_eq_true, Bool.or_eq_true, beq_iff_eq, decide_eq_true_eq, Bool.false_eq_true, eq_self, true_iff, false_iff, beq_eq_false_iff_ne, bne_eq_false_iff_eq, bne_iff_ne, ne_eq, decide_eq_false_iff_not] at *
    omega
end Go.Proofs.YgcfaaGreat

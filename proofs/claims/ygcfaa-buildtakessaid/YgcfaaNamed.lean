import Derived.Test.YgcfaaBook
namespace Go.Proofs.Ygcfaa
open Go.RowKit Bits Bd
set_option linter.unusedVariables false
set_option maxRecDepth 100000
set_option linter.unusedSimpArgs false
attribute [local go_sem] World.cell?_ext World.frozen?_ext

theorem retNamed_eq {a : Value} {x y : Bool} (h2 : x = y) : Ending.returned (.tuple #[a, .bool x]) = .returned (.tuple #[a, .bool y]) := by rw [h2]

set_option maxHeartbeats 4000000 in
theorem named_calls (op : Opn) (hop : op.Ok) {w : World} {b : Nat} {r : Value} {s : Nat → Value} {K : Bk} (hb : HK w b r s K) (hlt : op.h < K.e.length) (hn : K.e.length ≤ 256) {g c : Nat} (hr : r = .slice (some ⟨g, 0, none⟩) K.e.length c) (hL : (K.at_ op.h).set.length ≤ 256) :
    Calls Faag.prog 122 #[.pointer (some ⟨b, 0, none⟩), .agg (opC op).toArray] w fun e w' => e = .returned (.tuple #[.pointer (some ⟨g, op.h * 10, none⟩), .bool (decide (op.i < (K.at_ op.h).set.length))]) ∧ Below w.heap.size w w' := by
  obtain ⟨g', c', hr', hg, hgb, hcs⟩ := hb.entAt hlt
  rw [hr] at hr'
  simp only [Value.slice.injEq, Option.some.injEq, Addr.mk.injEq, and_true, true_and] at hr'
  obtain ⟨rfl, rfl⟩ := hr'
  obtain ⟨a, c2, hs, _⟩ := hb.setAt hlt
  have c9 := (hcs 9 _ rfl).1
  obtain ⟨l0, _, _, _⟩ := hb.lenAt
  have hbl : b < w.heap.size := hb.lt ⟨0, rfl⟩
  rw [hs] at c9
  rw [hr] at l0
  generalize (K.at_ op.h).set.length = L at *
  generalize K.e.length = n at *
  obtain ⟨kind, x, i, X, Y, N, V, st⟩ := op
  obtain ⟨o1, o2, o3, o4, o5, o6, o7⟩ := hop
  unfold opC
  dsimp only at *
  clear hcs hs hb
  go_enter Faag.func122, Faag.ntmps122
  go_wp2_with fail
  refine wp_region_qx 6 (by kernel_rfl) (by kernel_rfl) ?_
  simp only [List.take_succ_cons, List.take_zero, List.drop_succ_cons, List.drop_zero]
  repeat (go_big_quiet_step (fail))
  refine wpQuiet_nil ?_
  rintro _ ⟨x1, rfl⟩
  go_wp2_with fail
  refine wp_region_qy _ 11 (by kernel_rfl) (by kernel_rfl) ⟨x1, rfl⟩ ?_
  simp only [List.take_succ_cons, List.take_zero, List.drop_succ_cons, List.drop_zero]
  repeat (go_big_quiet_step (fail))
  refine wpQuiet_nil ?_
  rintro _ ⟨x2, rfl⟩
  go_wp2_with fail
  go_ret2
  refine ⟨retNamed_eq (by simp), ((Below.refl _ w).alloc (Nat.le_refl _) _).trans ((World.below_ext _ x2).mono (by simp))⟩
end Go.Proofs.Ygcfaa

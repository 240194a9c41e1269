import Derived.Test.YgcfaaTakesA
namespace Go.Proofs.Ygcfaa
open Go.RowKit Bits Bd
set_option linter.unusedVariables false
set_option maxRecDepth 100000
set_option linter.unusedSimpArgs false
attribute [local go_sem] World.cell?_ext World.frozen?_ext Kw.cell Kw.frozen

set_option maxHeartbeats 8000000 in
theorem takes_4 (op : Opn) (hop : op.Ok) {w : World} {b : Nat} {r : Value} {s : Nat → Value} {K : Bk} (hb : HK w b r s K) (fit : K.Fit) (fit2 : K.Fit2) (fit3 : K.Fit3) (hlt : op.h < K.e.length) (hdead : (K.at_ op.h).dead = false) (hk : op.kind = 4) {R : Option Bk} (v : Bool) (hv : v = true ↔ (K.at_ op.h).kind = 2 ∧ 2 ≤ (K.at_ op.h).code ∧ (K.at_ op.h).code ≤ 5 ∧ op.n < (K.at_ op.h).count) (hR : R = if v = true then some K else none) : Calls Faag.prog 35 #[.pointer (some ⟨b, 0, none⟩), .agg (opC op).toArray] w (KOut b r s K w R) := by
  have HKO := hide (fun (W : World) (bl : Below w.heap.size w W) => KOut.same hb bl (R := R) v hR)
  obtain ⟨g, c, hr, hg, hgb, hcs⟩ := hb.entAt hlt
  have c0 := (hcs 0 _ rfl).1
  have c1 := (hcs 1 _ rfl).1
  have c2 := (hcs 2 _ rfl).1
  have c3 := (hcs 3 _ rfl).1
  have c5 := (hcs 5 _ rfl).1
  simp only [Nat.add_zero] at c0
  rw [hdead] at c0
  obtain ⟨l0, _, _, _⟩ := hb.lenAt
  rw [hr] at l0
  have hbl : b < w.heap.size := hb.lt ⟨0, rfl⟩
  have hn := fit.n
  have hle : decide (K.e.length ≤ op.h) = false := by simpa using hlt
  have k1 := fit3.kind op.h
  have k2 := fit3.code op.h
  have k3 := fit3.data op.h
  have k4 := fit3.count op.h
  clear hcs
  generalize K.e.length = n at *
  generalize (K.at_ op.h).kind = ek at *
  generalize (K.at_ op.h).data = ed at *
  generalize (K.at_ op.h).code = ec at *
  generalize (K.at_ op.h).count = en at *
  clear hdead hb fit fit2 fit3 hr hR
  obtain ⟨kind, x, i, X, Y, N, V, st⟩ := op
  obtain ⟨o1, o2, o3, o4, o5, o6, o7⟩ := hop
  unfold opC
  dsimp only at *
  subst hk
  by_cases h1 : ek = 2
  · subst h1
    by_cases h2 : 2 ≤ ec
    · by_cases h3 : ec ≤ 5
      · by_cases h4 : N < en
        · have hvv : v = true := hv.2 ⟨rfl, h2, h3, h4⟩
          subst hvv
          have e2 : decide ((2 : Int) ≤ (ec : Int)) = true := by rw [decide_eq_true_iff]; omega
          have e3 : decide ((ec : Int) ≤ 5) = true := by rw [decide_eq_true_iff]; omega
          have e4 : decide (N < en) = true := by simpa using h4
          clear hv
          go_enter Faag.func35, Faag.ntmps35
          go_wp2_with fail
          refine wp_region_qx 16 (by kernel_rfl) (by kernel_rfl) ?_
          simp only [List.take_succ_cons, List.take_zero, List.drop_succ_cons, List.drop_zero]
          repeat (go_big_quiet_step (fail))
          refine wpQuiet_nil ?_
          rintro _ ⟨x1, rfl⟩
          go_wp2_with fail
          refine wp_region_qy _ 6 (by kernel_rfl) (by kernel_rfl) ⟨x1, rfl⟩ ?_
          simp only [List.take_succ_cons, List.take_zero, List.drop_succ_cons, List.drop_zero]
          repeat (go_big_quiet_step (fail))
          refine wpQuiet_nil ?_
          rintro _ ⟨x2, rfl⟩
          go_wp2_with fail
          refine wp_region_qy _ 27 (by kernel_rfl) (by kernel_rfl) ⟨x2, rfl⟩ ?_
          simp only [List.take_succ_cons, List.take_zero, List.drop_succ_cons, List.drop_zero]
          repeat (go_big_quiet_step (fail))
          refine wpQuiet_nil ?_
          rintro _ ⟨x3, rfl⟩
          go_wp2_with fail
          go_ret
          exact HKO.out _ (((Below.refl _ w).alloc (Nat.le_refl _) _).trans ((World.below_ext _ x3).mono (by simp)))
        · have hvv : v = false := by
            cases v
            · rfl
            · exact absurd (hv.1 rfl).2.2.2 h4
          subst hvv
          have e2 : decide ((2 : Int) ≤ (ec : Int)) = true := by rw [decide_eq_true_iff]; omega
          have e3 : decide ((ec : Int) ≤ 5) = true := by rw [decide_eq_true_iff]; omega
          have e4 : decide (N < en) = false := by simpa using h4
          clear hv
          go_enter Faag.func35, Faag.ntmps35
          go_wp2_with fail
          refine wp_region_qx 16 (by kernel_rfl) (by kernel_rfl) ?_
          simp only [List.take_succ_cons, List.take_zero, List.drop_succ_cons, List.drop_zero]
          repeat (go_big_quiet_step (fail))
          refine wpQuiet_nil ?_
          rintro _ ⟨x1, rfl⟩
          go_wp2_with fail
          refine wp_region_qy _ 6 (by kernel_rfl) (by kernel_rfl) ⟨x1, rfl⟩ ?_
          simp only [List.take_succ_cons, List.take_zero, List.drop_succ_cons, List.drop_zero]
          repeat (go_big_quiet_step (fail))
          refine wpQuiet_nil ?_
          rintro _ ⟨x2, rfl⟩
          go_wp2_with fail
          refine wp_region_qy _ 27 (by kernel_rfl) (by kernel_rfl) ⟨x2, rfl⟩ ?_
          simp only [List.take_succ_cons, List.take_zero, List.drop_succ_cons, List.drop_zero]
          repeat (go_big_quiet_step (fail))
          refine wpQuiet_nil ?_
          rintro _ ⟨x3, rfl⟩
          go_wp2_with fail
          go_ret
          exact HKO.out _ (((Below.refl _ w).alloc (Nat.le_refl _) _).trans ((World.below_ext _ x3).mono (by simp)))
      · have hvv : v = false := by
          cases v
          · rfl
          · exact absurd (hv.1 rfl).2.2.1 h3
        subst hvv
        have e2 : decide ((2 : Int) ≤ (ec : Int)) = true := by rw [decide_eq_true_iff]; omega
        have e3 : decide ((ec : Int) ≤ 5) = false := by rw [decide_eq_false_iff_not]; omega
        clear hv
        go_enter Faag.func35, Faag.ntmps35
        go_wp2_with fail
        refine wp_region_qx 16 (by kernel_rfl) (by kernel_rfl) ?_
        simp only [List.take_succ_cons, List.take_zero, List.drop_succ_cons, List.drop_zero]
        repeat (go_big_quiet_step (fail))
        refine wpQuiet_nil ?_
        rintro _ ⟨x1, rfl⟩
        go_wp2_with fail
        refine wp_region_qy _ 6 (by kernel_rfl) (by kernel_rfl) ⟨x1, rfl⟩ ?_
        simp only [List.take_succ_cons, List.take_zero, List.drop_succ_cons, List.drop_zero]
        repeat (go_big_quiet_step (fail))
        refine wpQuiet_nil ?_
        rintro _ ⟨x2, rfl⟩
        go_wp2_with fail
        refine wp_region_qy _ 27 (by kernel_rfl) (by kernel_rfl) ⟨x2, rfl⟩ ?_
        simp only [List.take_succ_cons, List.take_zero, List.drop_succ_cons, List.drop_zero]
        repeat (go_big_quiet_step (fail))
        refine wpQuiet_nil ?_
        rintro _ ⟨x3, rfl⟩
        go_wp2_with fail
        go_ret
        exact HKO.out _ (((Below.refl _ w).alloc (Nat.le_refl _) _).trans ((World.below_ext _ x3).mono (by simp)))
    · have hvv : v = false := by
        cases v
        · rfl
        · exact absurd (hv.1 rfl).2.1 h2
      subst hvv
      have e2 : decide ((2 : Int) ≤ (ec : Int)) = false := by rw [decide_eq_false_iff_not]; omega
      clear hv
      go_enter Faag.func35, Faag.ntmps35
      go_wp2_with fail
      refine wp_region_qx 16 (by kernel_rfl) (by kernel_rfl) ?_
      simp only [List.take_succ_cons, List.take_zero, List.drop_succ_cons, List.drop_zero]
      repeat (go_big_quiet_step (fail))
      refine wpQuiet_nil ?_
      rintro _ ⟨x1, rfl⟩
      go_wp2_with fail
      refine wp_region_qy _ 6 (by kernel_rfl) (by kernel_rfl) ⟨x1, rfl⟩ ?_
      simp only [List.take_succ_cons, List.take_zero, List.drop_succ_cons, List.drop_zero]
      repeat (go_big_quiet_step (fail))
      refine wpQuiet_nil ?_
      rintro _ ⟨x2, rfl⟩
      go_wp2_with fail
      refine wp_region_qy _ 27 (by kernel_rfl) (by kernel_rfl) ⟨x2, rfl⟩ ?_
      simp only [List.take_succ_cons, List.take_zero, List.drop_succ_cons, List.drop_zero]
      repeat (go_big_quiet_step (fail))
      refine wpQuiet_nil ?_
      rintro _ ⟨x3, rfl⟩
      go_wp2_with fail
      go_ret
      exact HKO.out _ (((Below.refl _ w).alloc (Nat.le_refl _) _).trans ((World.below_ext _ x3).mono (by simp)))
  · have hvv : v = false := by
      cases v
      · rfl
      · exact absurd (hv.1 rfl).1 h1
    subst hvv
    have e1 : ((ek : Int) == 2) = false := by simp; omega
    clear hv
    go_enter Faag.func35, Faag.ntmps35
    go_wp2_with fail
    refine wp_region_qx 16 (by kernel_rfl) (by kernel_rfl) ?_
    simp only [List.take_succ_cons, List.take_zero, List.drop_succ_cons, List.drop_zero]
    repeat (go_big_quiet_step (fail))
    refine wpQuiet_nil ?_
    rintro _ ⟨x1, rfl⟩
    go_wp2_with fail
    refine wp_region_qy _ 6 (by kernel_rfl) (by kernel_rfl) ⟨x1, rfl⟩ ?_
    simp only [List.take_succ_cons, List.take_zero, List.drop_succ_cons, List.drop_zero]
    repeat (go_big_quiet_step (fail))
    refine wpQuiet_nil ?_
    rintro _ ⟨x2, rfl⟩
    go_wp2_with fail
    refine wp_region_qy _ 27 (by kernel_rfl) (by kernel_rfl) ⟨x2, rfl⟩ ?_
    simp only [List.take_succ_cons, List.take_zero, List.drop_succ_cons, List.drop_zero]
    repeat (go_big_quiet_step (fail))
    refine wpQuiet_nil ?_
    rintro _ ⟨x3, rfl⟩
    go_wp2_with fail
    go_ret
    exact HKO.out _ (((Below.refl _ w).alloc (Nat.le_refl _) _).trans ((World.below_ext _ x3).mono (by simp)))

end Go.Proofs.Ygcfaa

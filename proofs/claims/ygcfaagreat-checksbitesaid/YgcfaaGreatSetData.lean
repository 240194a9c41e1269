import Derived.Test.YgcfaaGreatSetText
namespace Go.Proofs.YgcfaaGreat
open Go.RowKit Bits Bd Utf
set_option linter.unusedVariables false
set_option maxRecDepth 100000
set_option linter.unusedSimpArgs false
attribute [local go_sem] World.cell?_ext World.frozen?_ext

set_option maxHeartbeats 16000000 in
theorem setData_calls (op : Opn) (hop : op.Ok) {w : World} {p : Nat} {h : Nat → Value} {B : Bld} (hb : HB w p h B) (hl : Live B op.h) :
    Calls Faag.prog 43 #[.pointer (some ⟨p, 0, none⟩), .agg (opC op).toArray] w fun e w' => RetO e (setDataB B op) ∧ ∃ h', HB w' p h' ((setDataB B op).getD B) ∧ Mv p h h' w w' := by
  obtain ⟨⟨a1, a2⟩, ⟨a3, a4⟩, _, _, a5, _⟩ := hl.even
  obtain ⟨g, c, hv, hg, hcs⟩ := hb.objAt hl.lt
  obtain ⟨c1, _⟩ := hb.cell 1 (by omega)
  have hok := hb.ok.obj op.h
  have hat := hl.at_
  have hlt := hl.lt
  have hp : p < w.heap.size := hb.lt ⟨0, rfl⟩
  simp only [fOff, Nat.reduceAdd, Bld.len] at c1
  rw [hv] at c1
  have hS : setDataB B op = if ¬ (B.o op.h).kind = 1 ∨ 6 < op.x ∨ op.x = 1 ∨ op.x = 2 then none
    else if (B.o op.h).data * 64 ≤ op.n * 2 ^ op.x ∨ B.A.length ≤ (B.o op.h).at_ + op.n * 2 ^ op.x / 64 then none
    else some (Bd.setA B ((B.o op.h).at_ + op.n * 2 ^ op.x / 64) (putN (B.A.getD ((B.o op.h).at_ + op.n * 2 ^ op.x / 64) 0) op.v (op.n * 2 ^ op.x % 64) (2 ^ op.x))) := rfl
  change (B.o op.h).Ok at hok
  generalize setDataB B op = S at *
  generalize B.o op.h = q at *
  obtain ⟨qk, qa, qd, qp, qc, qn⟩ := q
  have d0 := hcs 0 _ rfl
  have d1 := hcs 1 _ rfl
  have d2 := hcs 2 _ rfl
  have d3 := hcs 3 _ rfl
  have d4 := hcs 4 _ rfl
  have d5 := hcs 5 _ rfl
  obtain ⟨q1, q2, q3, q4, q5, q6⟩ := hok
  have HH := hide hb
  obtain ⟨kind, x, i, X, Y, N, V, s⟩ := op
  obtain ⟨o1, o2, o3, o4, o5, o6, o7⟩ := hop
  unfold opC
  dsimp only at d0 d1 d2 d3 d4 d5 q1 q2 q3 q4 q5 q6 o1 o2 o3 o4 o5 o6 o7 hS hat hlt ⊢
  simp only [Nat.add_zero] at d0
  have HS := hide hS
  clear hcs hv hb hl hS
  go_enter Faag.func43, Faag.ntmps43
  go_wp2_with fail
  refine wp_region_ql (fun w' => ∃ x, w' = (w.alloc _).ext x) 9 [0, 1, 2, 3, 4, 5, 6, 7] [8] (by kernel_rfl) (by kernel_rfl) ?_ (ext_drew _) ?_
  · intro d v c a w hx
    cases d <;> exact hx
  simp only [pickOps, List.getElem?_cons_zero, List.getElem?_cons_succ, Option.toList_some, List.cons_append, List.nil_append, List.drop_succ_cons, List.drop_zero]
  repeat (go_big_quiet_step (fail))
  refine wpQuiet_nil ?_
  refine wpLd_cons ?_
  go_wp2_with fail
  refine ⟨ext_alloc _ _, ?_⟩
  unfold wpLd
  have hst := St.two HH.out [.int .u8 kind, .int .u8 x, .int .u8 i, .int .u8 X, .int .u8 Y, .int .u16 N, .int .u64 V, .string s] 55 [.int .u8 qk, .int .u16 qa, .int .u8 qd, .int .u8 qp, .int .u8 qc, .int .u16 qn] 62
  have HST := hide hst
  clear hst
  have hcases : ((qk : Int) != 1) = true ∨ (qk = 1 ∧ 6 < X) ∨ (qk = 1 ∧ X = 1) ∨ (qk = 1 ∧ X = 2) ∨ (qk = 1 ∧ X = 0) ∨ (qk = 1 ∧ X = 3) ∨ (qk = 1 ∧ X = 4) ∨ (qk = 1 ∧ X = 5) ∨ (qk = 1 ∧ X = 6) := by
    simp only [bne_iff_ne, ne_eq]; omega
  have hp2 : p < w.heap.size + 1 := by omega
  rcases hcases with hc | ⟨rfl, hc⟩ | ⟨rfl, rfl⟩ | ⟨rfl, rfl⟩ | hc
  · have HS2 := hide (show S = none from by
      rw [HS.out]
      exact if_pos (.inl (by simp only [bne_iff_ne, ne_eq] at hc; omega)))
    go_wp2_with fail
    go_ret
    rw [HS2.out]
    exact ⟨rfl, h, HST.out.hb, HST.out.mv⟩
  · have HS2 := hide (show S = none from by
      rw [HS.out]
      exact if_pos (.inr (.inl hc)))
    go_wp2_with fail
    go_ret
    rw [HS2.out]
    exact ⟨rfl, h, HST.out.hb, HST.out.mv⟩
  · have HS2 := hide (show S = none from by
      rw [HS.out]
      exact if_pos (by omega))
    go_wp2_with fail
    go_ret
    rw [HS2.out]
    exact ⟨rfl, h, HST.out.hb, HST.out.mv⟩
  · have HS2 := hide (show S = none from by
      rw [HS.out]
      exact if_pos (by omega))
    go_wp2_with fail
    go_ret
    rw [HS2.out]
    exact ⟨rfl, h, HST.out.hb, HST.out.mv⟩
  obtain ⟨b0, cp0, c0, hv0⟩ := HH.out.lens 0 (by omega)
  simp only [fOff, Bld.len] at c0 hv0
  rcases hc with ⟨rfl, rfl⟩ | ⟨rfl, rfl⟩ | ⟨rfl, rfl⟩ | ⟨rfl, rfl⟩ | ⟨rfl, rfl⟩
  · have HS3 := HS.out
    rw [if_neg (by omega)] at HS3
    simp only [Nat.reducePow, Nat.mul_one] at HS3
    replace HS3 := hide HS3
    clear HS
    by_cases g1 : qd * 64 ≤ N
    · have HS2 := hide (show S = none from by rw [HS3.out]; exact if_pos (.inl g1))
      clear HS3
      go_wp2_with fail
      go_ret
      rw [HS2.out]
      exact ⟨rfl, h, HST.out.hb, HST.out.mv⟩
    by_cases g2 : B.A.length ≤ qa + N / 64
    · have HS2 := hide (show S = none from by rw [HS3.out]; exact if_pos (.inr g2))
      clear HS3
      go_wp2_with fail
      go_ret
      rw [HS2.out]
      exact ⟨rfl, h, HST.out.hb, HST.out.mv⟩
    have hS4 := HS3.out
    rw [if_neg (by omega)] at hS4
    obtain ⟨J, hJ⟩ : ∃ J, J = qa + N / 64 := ⟨_, rfl⟩
    obtain ⟨T, hT⟩ : ∃ T, T = N % 64 := ⟨_, rfl⟩
    rw [← hJ, ← hT] at hS4
    have hJl : J < B.A.length := by omega
    obtain ⟨ga, ca, hga, hgl, hgp, cA, cAf⟩ := HH.out.aAt hJl
    have hAv := HH.out.ok.A J
    rw [hga] at hv0
    cases hv0
    have hgl2 : ga < w.heap.size + 1 := by omega
    have JI : (qa : Int) + (N : Int) / 64 = (J : Int) := by omega
    have TI : (N : Int) % 64 = (T : Int) := by omega
    have hTl : T < 64 := by omega
    have HP := hide (put_calls (B.A.getD J 0) V T 1 hAv o7 (by omega) (by omega))
    have hml := putN_lt (v := V) hAv T 1
    obtain ⟨M, hM⟩ : ∃ M, M = putN (B.A.getD J 0) V T 1 := ⟨_, rfl⟩
    rw [← hM] at HP hml hS4
    have HS2 := hide hS4
    have HGA := hide hga
    generalize B.A.getD J 0 = Av at *
    generalize B.A.length = n0 at *
    clear HS3 hS4 hM hJ hT hga g2
    go_wp2_with fail
    refine wp_region_qx 21 (by kernel_rfl) (by kernel_rfl) ?_
    simp only [List.take_succ_cons, List.take_zero, List.drop_succ_cons, List.drop_zero]
    repeat (go_big_quiet_step ((go_at_call 87; exact Calls.ext_of_same (HP.out _))))
    refine wpQuiet_nil ?_
    rintro _ ⟨x3, rfl⟩
    go_wp2_with fail
    go_ret
    rw [HS2.out]
    refine ⟨rfl, h, ?_⟩
    have hst := HST.out.ext (by simp) (by simp) x3
    have hst2 := hst.step (by simp) (by simp) (hst.hb.setA HGA.out hml (i := J)) (HB.put_mv p (i := 0) (by omega) HGA.out)
    exact ⟨hst2.hb, hst2.mv⟩
  · have HS3 := HS.out
    rw [if_neg (by omega)] at HS3
    simp only [Nat.reducePow, Nat.mul_one] at HS3
    replace HS3 := hide HS3
    clear HS
    by_cases g1 : qd * 64 ≤ N * 8
    · have HS2 := hide (show S = none from by rw [HS3.out]; exact if_pos (.inl g1))
      clear HS3
      go_wp2_with fail
      go_ret
      rw [HS2.out]
      exact ⟨rfl, h, HST.out.hb, HST.out.mv⟩
    by_cases g2 : B.A.length ≤ qa + N * 8 / 64
    · have HS2 := hide (show S = none from by rw [HS3.out]; exact if_pos (.inr g2))
      clear HS3
      go_wp2_with fail
      go_ret
      rw [HS2.out]
      exact ⟨rfl, h, HST.out.hb, HST.out.mv⟩
    have hS4 := HS3.out
    rw [if_neg (by omega)] at hS4
    obtain ⟨J, hJ⟩ : ∃ J, J = qa + N * 8 / 64 := ⟨_, rfl⟩
    obtain ⟨T, hT⟩ : ∃ T, T = N * 8 % 64 := ⟨_, rfl⟩
    rw [← hJ, ← hT] at hS4
    have hJl : J < B.A.length := by omega
    obtain ⟨ga, ca, hga, hgl, hgp, cA, cAf⟩ := HH.out.aAt hJl
    have hAv := HH.out.ok.A J
    rw [hga] at hv0
    cases hv0
    have hgl2 : ga < w.heap.size + 1 := by omega
    have JI : (qa : Int) + (N : Int) * 8 / 64 = (J : Int) := by omega
    have TI : (N : Int) * 8 % 64 = (T : Int) := by omega
    have hTl : T < 64 := by omega
    have HP := hide (put_calls (B.A.getD J 0) V T 8 hAv o7 (by omega) (by omega))
    have hml := putN_lt (v := V) hAv T 8
    obtain ⟨M, hM⟩ : ∃ M, M = putN (B.A.getD J 0) V T 8 := ⟨_, rfl⟩
    rw [← hM] at HP hml hS4
    have HS2 := hide hS4
    have HGA := hide hga
    generalize B.A.getD J 0 = Av at *
    generalize B.A.length = n0 at *
    clear HS3 hS4 hM hJ hT hga g2
    go_wp2_with fail
    refine wp_region_qx 21 (by kernel_rfl) (by kernel_rfl) ?_
    simp only [List.take_succ_cons, List.take_zero, List.drop_succ_cons, List.drop_zero]
    repeat (go_big_quiet_step ((go_at_call 87; exact Calls.ext_of_same (HP.out _))))
    refine wpQuiet_nil ?_
    rintro _ ⟨x3, rfl⟩
    go_wp2_with fail
    go_ret
    rw [HS2.out]
    refine ⟨rfl, h, ?_⟩
    have hst := HST.out.ext (by simp) (by simp) x3
    have hst2 := hst.step (by simp) (by simp) (hst.hb.setA HGA.out hml (i := J)) (HB.put_mv p (i := 0) (by omega) HGA.out)
    exact ⟨hst2.hb, hst2.mv⟩
  · have HS3 := HS.out
    rw [if_neg (by omega)] at HS3
    simp only [Nat.reducePow, Nat.mul_one] at HS3
    replace HS3 := hide HS3
    clear HS
    by_cases g1 : qd * 64 ≤ N * 16
    · have HS2 := hide (show S = none from by rw [HS3.out]; exact if_pos (.inl g1))
      clear HS3
      go_wp2_with fail
      go_ret
      rw [HS2.out]
      exact ⟨rfl, h, HST.out.hb, HST.out.mv⟩
    by_cases g2 : B.A.length ≤ qa + N * 16 / 64
    · have HS2 := hide (show S = none from by rw [HS3.out]; exact if_pos (.inr g2))
      clear HS3
      go_wp2_with fail
      go_ret
      rw [HS2.out]
      exact ⟨rfl, h, HST.out.hb, HST.out.mv⟩
    have hS4 := HS3.out
    rw [if_neg (by omega)] at hS4
    obtain ⟨J, hJ⟩ : ∃ J, J = qa + N * 16 / 64 := ⟨_, rfl⟩
    obtain ⟨T, hT⟩ : ∃ T, T = N * 16 % 64 := ⟨_, rfl⟩
    rw [← hJ, ← hT] at hS4
    have hJl : J < B.A.length := by omega
    obtain ⟨ga, ca, hga, hgl, hgp, cA, cAf⟩ := HH.out.aAt hJl
    have hAv := HH.out.ok.A J
    rw [hga] at hv0
    cases hv0
    have hgl2 : ga < w.heap.size + 1 := by omega
    have JI : (qa : Int) + (N : Int) * 16 / 64 = (J : Int) := by omega
    have TI : (N : Int) * 16 % 64 = (T : Int) := by omega
    have hTl : T < 64 := by omega
    have HP := hide (put_calls (B.A.getD J 0) V T 16 hAv o7 (by omega) (by omega))
    have hml := putN_lt (v := V) hAv T 16
    obtain ⟨M, hM⟩ : ∃ M, M = putN (B.A.getD J 0) V T 16 := ⟨_, rfl⟩
    rw [← hM] at HP hml hS4
    have HS2 := hide hS4
    have HGA := hide hga
    generalize B.A.getD J 0 = Av at *
    generalize B.A.length = n0 at *
    clear HS3 hS4 hM hJ hT hga g2
    go_wp2_with fail
    refine wp_region_qx 21 (by kernel_rfl) (by kernel_rfl) ?_
    simp only [List.take_succ_cons, List.take_zero, List.drop_succ_cons, List.drop_zero]
    repeat (go_big_quiet_step ((go_at_call 87; exact Calls.ext_of_same (HP.out _))))
    refine wpQuiet_nil ?_
    rintro _ ⟨x3, rfl⟩
    go_wp2_with fail
    go_ret
    rw [HS2.out]
    refine ⟨rfl, h, ?_⟩
    have hst := HST.out.ext (by simp) (by simp) x3
    have hst2 := hst.step (by simp) (by simp) (hst.hb.setA HGA.out hml (i := J)) (HB.put_mv p (i := 0) (by omega) HGA.out)
    exact ⟨hst2.hb, hst2.mv⟩
  · have HS3 := HS.out
    rw [if_neg (by omega)] at HS3
    simp only [Nat.reducePow, Nat.mul_one] at HS3
    replace HS3 := hide HS3
    clear HS
    by_cases g1 : qd * 64 ≤ N * 32
    · have HS2 := hide (show S = none from by rw [HS3.out]; exact if_pos (.inl g1))
      clear HS3
      go_wp2_with fail
      go_ret
      rw [HS2.out]
      exact ⟨rfl, h, HST.out.hb, HST.out.mv⟩
    by_cases g2 : B.A.length ≤ qa + N * 32 / 64
    · have HS2 := hide (show S = none from by rw [HS3.out]; exact if_pos (.inr g2))
      clear HS3
      go_wp2_with fail
      go_ret
      rw [HS2.out]
      exact ⟨rfl, h, HST.out.hb, HST.out.mv⟩
    have hS4 := HS3.out
    rw [if_neg (by omega)] at hS4
    obtain ⟨J, hJ⟩ : ∃ J, J = qa + N * 32 / 64 := ⟨_, rfl⟩
    obtain ⟨T, hT⟩ : ∃ T, T = N * 32 % 64 := ⟨_, rfl⟩
    rw [← hJ, ← hT] at hS4
    have hJl : J < B.A.length := by omega
    obtain ⟨ga, ca, hga, hgl, hgp, cA, cAf⟩ := HH.out.aAt hJl
    have hAv := HH.out.ok.A J
    rw [hga] at hv0
    cases hv0
    have hgl2 : ga < w.heap.size + 1 := by omega
    have JI : (qa : Int) + (N : Int) * 32 / 64 = (J : Int) := by omega
    have TI : (N : Int) * 32 % 64 = (T : Int) := by omega
    have hTl : T < 64 := by omega
    have HP := hide (put_calls (B.A.getD J 0) V T 32 hAv o7 (by omega) (by omega))
    have hml := putN_lt (v := V) hAv T 32
    obtain ⟨M, hM⟩ : ∃ M, M = putN (B.A.getD J 0) V T 32 := ⟨_, rfl⟩
    rw [← hM] at HP hml hS4
    have HS2 := hide hS4
    have HGA := hide hga
    generalize B.A.getD J 0 = Av at *
    generalize B.A.length = n0 at *
    clear HS3 hS4 hM hJ hT hga g2
    go_wp2_with fail
    refine wp_region_qx 21 (by kernel_rfl) (by kernel_rfl) ?_
    simp only [List.take_succ_cons, List.take_zero, List.drop_succ_cons, List.drop_zero]
    repeat (go_big_quiet_step ((go_at_call 87; exact Calls.ext_of_same (HP.out _))))
    refine wpQuiet_nil ?_
    rintro _ ⟨x3, rfl⟩
    go_wp2_with fail
    go_ret
    rw [HS2.out]
    refine ⟨rfl, h, ?_⟩
    have hst := HST.out.ext (by simp) (by simp) x3
    have hst2 := hst.step (by simp) (by simp) (hst.hb.setA HGA.out hml (i := J)) (HB.put_mv p (i := 0) (by omega) HGA.out)
    exact ⟨hst2.hb, hst2.mv⟩
  · have HS3 := HS.out
    rw [if_neg (by omega)] at HS3
    simp only [Nat.reducePow, Nat.mul_one] at HS3
    replace HS3 := hide HS3
    clear HS
    by_cases g1 : qd * 64 ≤ N * 64
    · have HS2 := hide (show S = none from by rw [HS3.out]; exact if_pos (.inl g1))
      clear HS3
      go_wp2_with fail
      go_ret
      rw [HS2.out]
      exact ⟨rfl, h, HST.out.hb, HST.out.mv⟩
    by_cases g2 : B.A.length ≤ qa + N * 64 / 64
    · have HS2 := hide (show S = none from by rw [HS3.out]; exact if_pos (.inr g2))
      clear HS3
      go_wp2_with fail
      go_ret
      rw [HS2.out]
      exact ⟨rfl, h, HST.out.hb, HST.out.mv⟩
    have hS4 := HS3.out
    rw [if_neg (by omega)] at hS4
    obtain ⟨J, hJ⟩ : ∃ J, J = qa + N * 64 / 64 := ⟨_, rfl⟩
    rw [← hJ, show N * 64 % 64 = 0 by omega] at hS4
    have hJl : J < B.A.length := by omega
    obtain ⟨ga, ca, hga, hgl, hgp, cA, cAf⟩ := HH.out.aAt hJl
    have hAv := HH.out.ok.A J
    rw [hga] at hv0
    cases hv0
    have hgl2 : ga < w.heap.size + 1 := by omega
    have JI : (qa : Int) + (N : Int) = (J : Int) := by omega
    have HP := hide (put_calls (B.A.getD J 0) V 0 64 hAv o7 (by omega) (by omega))
    have hml := putN_lt (v := V) hAv 0 64
    obtain ⟨M, hM⟩ : ∃ M, M = putN (B.A.getD J 0) V 0 64 := ⟨_, rfl⟩
    rw [← hM] at HP hml hS4
    have HS2 := hide hS4
    have HGA := hide hga
    generalize B.A.getD J 0 = Av at *
    generalize B.A.length = n0 at *
    clear HS3 hS4 hM hJ hga g2
    go_wp2_with fail
    refine wp_region_qx 21 (by kernel_rfl) (by kernel_rfl) ?_
    simp only [List.take_succ_cons, List.take_zero, List.drop_succ_cons, List.drop_zero]
    repeat (go_big_quiet_step ((go_at_call 87; exact Calls.ext_of_same (HP.out _))))
    refine wpQuiet_nil ?_
    rintro _ ⟨x3, rfl⟩
    go_wp2_with fail
    go_ret
    rw [HS2.out]
    refine ⟨rfl, h, ?_⟩
    have hst := HST.out.ext (by simp) (by simp) x3
    have hst2 := hst.step (by simp) (by simp) (hst.hb.setA HGA.out hml (i := J)) (HB.put_mv p (i := 0) (by omega) HGA.out)
    exact ⟨hst2.hb, hst2.mv⟩
end Go.Proofs.YgcfaaGreat

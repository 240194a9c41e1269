import Derived.Test.YgcfaaGreatSetText
namespace Go.Proofs.YgcfaaGreat
open Go.RowKit Bits Bd Utf
set_option linter.unusedVariables false
set_option maxRecDepth 100000
set_option linter.unusedSimpArgs false
attribute [local go_sem] World.cell?_ext World.frozen?_ext

set_option maxHeartbeats 16000000 in
theorem setElem_calls (op : Opn) (hop : op.Ok) {B : Bld} (c : Bool) (hc : c = true ↔ insideP B.A.length (B.o op.h)) {w : World} {p : Nat} {h : Nat → Value} (hb : HB w p h B) (hl : Live B op.h) :
    Calls Faag.prog 44 #[.pointer (some ⟨p, 0, none⟩), .agg (opC op).toArray] w fun e w' => RetO e (setElemB B op c) ∧ ∃ h', HB w' p h' ((setElemB B op c).getD B) ∧ Mv p h h' w w' := by
  obtain ⟨⟨a1, a2⟩, ⟨a3, a4⟩, _, _, a5, _⟩ := hl.even
  obtain ⟨g, cg, hv, hg, hcs⟩ := hb.objAt hl.lt
  obtain ⟨c1, _⟩ := hb.cell 1 (by omega)
  have hok : (B.o op.h).Ok := hb.ok.obj op.h
  have hat := hl.at_
  have hlt := hl.lt
  have hp : p < w.heap.size := hb.lt ⟨0, rfl⟩
  simp only [fOff, Nat.reduceAdd, Bld.len] at c1
  rw [hv] at c1
  have hS : setElemB B op c = if ¬ (B.o op.h).kind = 2 ∨ width (B.o op.h).code = 0 ∨ (B.o op.h).count ≤ op.n ∨ c = false then none
    else some (Bd.setA B ((B.o op.h).at_ + op.n * width (B.o op.h).code / 8) (putN (B.A.getD ((B.o op.h).at_ + op.n * width (B.o op.h).code / 8) 0) op.v (op.n * width (B.o op.h).code % 8 * 8) (width (B.o op.h).code * 8))) := rfl
  have HI := hide (fun (a : Option Addr) (cp : Nat) (W : World) => inside_calls a B.A.length cp (by omega) (B.o op.h) hok W)
  have Hc := hide hc
  clear hc
  generalize setElemB B op c = S at *
  generalize B.o op.h = q at *
  obtain ⟨qk, qa, qd, qp, qc, qn⟩ := q
  have d0 := hcs 0 _ rfl
  have d1 := hcs 1 _ rfl
  have d2 := hcs 2 _ rfl
  have d3 := hcs 3 _ rfl
  have d4 := hcs 4 _ rfl
  have d5 := hcs 5 _ rfl
  obtain ⟨q1, q2, q3, q4, q5, q6⟩ := hok
  have HH := hide hb
  obtain ⟨kind, x, i, X, Y, N, V, s⟩ := op
  obtain ⟨o1, o2, o3, o4, o5, o6, o7⟩ := hop
  unfold opC
  unfold ptrC at HI
  dsimp only at HI Hc d0 d1 d2 d3 d4 d5 q1 q2 q3 q4 q5 q6 o1 o2 o3 o4 o5 o6 o7 hS hat hlt ⊢
  simp only [Nat.add_zero] at d0
  have HS := hide hS
  clear hcs hv hb hl hS
  go_enter Faag.func44, Faag.ntmps44
  go_wp2_with fail
  refine wp_region_ql (fun w' => ∃ x, w' = (w.alloc _).ext x) 9 [0, 1, 2, 3, 4, 5, 6, 7] [8] (by kernel_rfl) (by kernel_rfl) ?_ (ext_drew _) ?_
  · intro d v c a w hx
    cases d <;> exact hx
  simp only [pickOps, List.getElem?_cons_zero, List.getElem?_cons_succ, Option.toList_some, List.cons_append, List.nil_append, List.drop_succ_cons, List.drop_zero]
  repeat (go_big_quiet_step (fail))
  refine wpQuiet_nil ?_
  refine wpLd_cons ?_
  go_wp2_with fail
  refine ⟨ext_alloc _ _, ?_⟩
  unfold wpLd
  have hst := St.two HH.out [.int .u8 kind, .int .u8 x, .int .u8 i, .int .u8 X, .int .u8 Y, .int .u16 N, .int .u64 V, .string s] 55 [.int .u8 qk, .int .u16 qa, .int .u8 qd, .int .u8 qp, .int .u8 qc, .int .u16 qn] 62
  have HST := hide hst
  clear hst
  have hp2 : p < w.heap.size + 1 := by omega
  obtain ⟨b0, cp0, c0, hv0⟩ := HH.out.lens 0 (by omega)
  simp only [fOff, Bld.len] at c0 hv0
  have hcases : (width qc = 0) ∨ (qc = 2 ∧ width qc = 1) ∨ (qc = 3 ∧ width qc = 2) ∨ (qc = 4 ∧ width qc = 4) ∨ (qc = 5 ∧ width qc = 8) := by
    unfold width
    by_cases h1 : qc < 2 ∨ 5 < qc
    · rw [if_pos h1]; omega
    · rw [if_neg h1]
      have : qc = 2 ∨ qc = 3 ∨ qc = 4 ∨ qc = 5 := by omega
      rcases this with rfl | rfl | rfl | rfl <;> simp
  have HWd := hide (width_calls qc q5)
  rcases hcases with hw | ⟨rfl, hw⟩ | ⟨rfl, hw⟩ | ⟨rfl, hw⟩ | ⟨rfl, hw⟩
  · rw [hw] at HWd HS
    have HS2 := hide (show S = none from by
      rw [HS.out]
      exact if_pos (.inr (.inl rfl)))
    have hk2 : ((qk : Int) != 2) = true ∨ ((qk : Int) != 2) = false := by cases ((qk : Int) != 2) <;> simp
    clear hw HS
    rcases hk2 with hk2 | hk2
    all_goals
      go_wp2_with fail
      refine (HWd.out _).mono ?_
      rintro e w1 ⟨rfl, rfl⟩
      go_wp2_with fail
      refine wp_region_qx 20 (by kernel_rfl) (by kernel_rfl) ?_
      simp only [List.take_succ_cons, List.take_zero, List.drop_succ_cons, List.drop_zero]
      repeat (go_big_quiet_step (fail))
      refine wpQuiet_nil ?_
      rintro _ ⟨x3, rfl⟩
      go_wp2_with fail
      go_ret
      rw [HS2.out]
      exact ⟨rfl, h, (HST.out.ext (by simp) (by simp) _).hb, (HST.out.ext (by simp) (by simp) _).mv⟩
  · rw [hw] at HWd HS
    clear hw
    simp only [Nat.mul_one] at HS
    by_cases hk : qk = 2
    · subst hk
      by_cases hN : qn ≤ N
      · have HS2 := hide (show S = none from by rw [HS.out]; exact if_pos (.inr (.inr (.inl hN))))
        clear HS
        go_wp2_with fail
        refine (HWd.out _).mono ?_
        rintro e w1 ⟨rfl, rfl⟩
        go_wp2_with fail
        refine wp_region_qx 20 (by kernel_rfl) (by kernel_rfl) ?_
        simp only [List.take_succ_cons, List.take_zero, List.drop_succ_cons, List.drop_zero]
        repeat (go_big_quiet_step (fail))
        refine wpQuiet_nil ?_
        rintro _ ⟨x3, rfl⟩
        go_wp2_with fail
        go_ret
        rw [HS2.out]
        exact ⟨rfl, h, (HST.out.ext (by simp) (by simp) _).hb, (HST.out.ext (by simp) (by simp) _).mv⟩
      · cases c
        · have HS2 := hide (show S = none from by rw [HS.out]; exact if_pos (.inr (.inr (.inr rfl))))
          have HF := hide (show ¬ insideP B.A.length ⟨2, qa, qd, qp, 2, qn⟩ from fun e => by have := Hc.out.2 e; cases this)
          clear HS Hc
          go_wp2_with fail
          refine (HWd.out _).mono ?_
          rintro e w1 ⟨rfl, rfl⟩
          go_wp2_with fail
          refine wp_region_qx 20 (by kernel_rfl) (by kernel_rfl) ?_
          simp only [List.take_succ_cons, List.take_zero, List.drop_succ_cons, List.drop_zero]
          repeat (go_big_quiet_step (fail))
          refine wpQuiet_nil ?_
          rintro _ ⟨x3, rfl⟩
          go_wp2_with fail
          refine (HI.out _ _ _).mono ?_
          rintro e w2 ⟨⟨r, rfl, hr⟩, hb2⟩
          have hrf : r = false := by cases r; rfl; exact absurd (hr.1 rfl) HF.out
          subst hrf
          obtain ⟨x4, rfl⟩ := ext_below ⟨x3, rfl⟩ hb2
          clear hb2 hr HF
          go_wp2_with fail
          go_ret
          rw [HS2.out]
          exact ⟨rfl, h, (HST.out.ext (by simp) (by simp) _).hb, (HST.out.ext (by simp) (by simp) _).mv⟩
        · have hin := Hc.out.1 rfl
          have hw8 : words ⟨2, qa, qd, qp, 2, qn⟩ ≤ 256 := by unfold insideP at hin; dsimp only at hin; omega
          have hwd : qn ≤ 128 ∧ words ⟨2, qa, qd, qp, 2, qn⟩ = (qn * 1 + 7) / 8 := by
            unfold words width at hw8 ⊢
            dsimp only at hw8 ⊢
            rw [if_neg (by omega), if_neg (by omega)] at hw8 ⊢
            by_cases hq : ¬ (2 : Nat) = 2 ∨ 128 < qn
            · rw [if_pos hq] at hw8; omega
            · rw [if_neg hq, if_pos (by omega), if_neg (by omega)]
              exact ⟨by omega, by simp⟩
          obtain ⟨hq1, hq2⟩ := hwd
          have hin2 : qa + (qn * 1 + 7) / 8 ≤ B.A.length := by unfold insideP at hin; dsimp only at hin; omega
          have hS4 := HS.out
          rw [if_neg (by simp; omega)] at hS4
          obtain ⟨J, hJ⟩ : ∃ J, J = qa + N / 8 := ⟨_, rfl⟩
          obtain ⟨T, hT⟩ : ∃ T, T = N % 8 * 8 := ⟨_, rfl⟩
          rw [← hJ, ← hT] at hS4
          have JI : (qa : Int) + (N : Int) / 8 = (J : Int) := by omega
          have TI : (N : Int) % 8 * 8 = (T : Int) := by omega
          have hTl : T < 64 := by omega
          have hJl : J < B.A.length := by omega
          obtain ⟨ga, ca, hga, hgl, hgp, cA, cAf⟩ := HH.out.aAt hJl
          have hAv := HH.out.ok.A J
          rw [hga] at hv0
          cases hv0
          have hgl2 : ga < w.heap.size + 1 := by omega
          simp only [Nat.reduceMul] at hS4
          have HP := hide (put_calls (B.A.getD J 0) V T 8 hAv o7 (by omega) (by omega))
          have hml := putN_lt (v := V) hAv T 8
          obtain ⟨M, hM⟩ : ∃ M, M = putN (B.A.getD J 0) V T 8 := ⟨_, rfl⟩
          rw [← hM] at HP hml hS4
          have HS2 := hide hS4
          have HGA := hide hga
          have HIN := hide hin
          obtain ⟨Av, hAvv⟩ : ∃ Av, Av = B.A.getD J 0 := ⟨_, rfl⟩
          rw [← hAvv] at HP hAv cA
          have HAv := hide hAvv
          clear hAvv
          clear HS hS4 hM hJ hT hga hin hw8 hq2 hin2 Hc
          have hNs : N < qn := by omega
          go_wp2_with fail
          refine (HWd.out _).mono ?_
          rintro e w1 ⟨rfl, rfl⟩
          go_wp2_with fail
          refine wp_region_qx 20 (by kernel_rfl) (by kernel_rfl) ?_
          simp only [List.take_succ_cons, List.take_zero, List.drop_succ_cons, List.drop_zero]
          repeat (go_big_quiet_step (fail))
          refine wpQuiet_nil ?_
          rintro _ ⟨x3, rfl⟩
          go_wp2_with fail
          refine (HI.out _ _ _).mono ?_
          rintro e w2 ⟨⟨r, rfl, hr⟩, hb2⟩
          have hrf : r = true := hr.2 HIN.out
          subst hrf
          obtain ⟨x4, rfl⟩ := ext_below ⟨x3, rfl⟩ hb2
          clear hb2 hr HI HIN
          go_wp2_with fail
          obtain ⟨W, hW⟩ : ∃ W, W = ((w.alloc (.cells #[.int .u8 kind, .int .u8 x, .int .u8 i, .int .u8 X, .int .u8 Y, .int .u16 N, .int .u64 V, .string s] 55)).alloc (.cells #[.int .u8 2, .int .u16 qa, .int .u8 qd, .int .u8 qp, .int .u8 2, .int .u16 qn] 62)).drew := ⟨_, rfl⟩
          rw [← hW]
          have hst : St p w h w.heap.size [.int .u8 kind, .int .u8 x, .int .u8 i, .int .u8 X, .int .u8 Y, .int .u16 N, .int .u64 V, .string s] (w.heap.size + 1) [.int .u8 2, .int .u16 qa, .int .u8 qd, .int .u8 qp, .int .u8 2, .int .u16 qn] W h B := by rw [hW]; exact HST.out
          have HS5 := hide hst
          have e6 := hst.r1.at_ (i := 6) rfl
          obtain ⟨k0, _⟩ := hst.hb.cell 0 (by omega)
          simp only [fOff, Nat.zero_add] at k0 e6
          rw [HGA.out] at k0
          obtain ⟨gb, cb, hgb, hgbl, hgbp, cB, cBf⟩ := hst.hb.aAt hJl
          rw [HGA.out] at hgb
          cases hgb
          clear hst hW HST c0 cA cAf c1 d0 d1 d2 d3 d4 d5 HH hp hp2 hgl hgl2 hg
          rw [← HAv.out] at cB
          refine wp_region_qy W 22 (by kernel_rfl) (by kernel_rfl) ⟨_, rfl⟩ ?_
          simp only [List.take_succ_cons, List.take_zero, List.drop_succ_cons, List.drop_zero]
          repeat (go_big_quiet_step ((go_at_call 87; exact Calls.ext_of_same (HP.out _))))
          refine wpQuiet_nil ?_
          rintro _ ⟨x5, rfl⟩
          go_wp2_with fail
          go_ret
          rw [HS2.out]
          refine ⟨rfl, h, ?_⟩
          have hst := HS5.out.ext (by simp) (by simp) x5
          have hst2 := hst.step (by simp) (by simp) (hst.hb.setA HGA.out hml (i := J)) (HB.put_mv p (i := 0) (by omega) HGA.out)
          exact ⟨hst2.hb, hst2.mv⟩
    · have hk2 : ((qk : Int) != 2) = true := by simp; omega
      have HS2 := hide (show S = none from by rw [HS.out]; exact if_pos (.inl hk))
      clear HS
      go_wp2_with fail
      refine (HWd.out _).mono ?_
      rintro e w1 ⟨rfl, rfl⟩
      go_wp2_with fail
      refine wp_region_qx 20 (by kernel_rfl) (by kernel_rfl) ?_
      simp only [List.take_succ_cons, List.take_zero, List.drop_succ_cons, List.drop_zero]
      repeat (go_big_quiet_step (fail))
      refine wpQuiet_nil ?_
      rintro _ ⟨x3, rfl⟩
      go_wp2_with fail
      go_ret
      rw [HS2.out]
      exact ⟨rfl, h, (HST.out.ext (by simp) (by simp) _).hb, (HST.out.ext (by simp) (by simp) _).mv⟩
  · rw [hw] at HWd HS
    clear hw
    by_cases hk : qk = 2
    · subst hk
      by_cases hN : qn ≤ N
      · have HS2 := hide (show S = none from by rw [HS.out]; exact if_pos (.inr (.inr (.inl hN))))
        clear HS
        go_wp2_with fail
        refine (HWd.out _).mono ?_
        rintro e w1 ⟨rfl, rfl⟩
        go_wp2_with fail
        refine wp_region_qx 20 (by kernel_rfl) (by kernel_rfl) ?_
        simp only [List.take_succ_cons, List.take_zero, List.drop_succ_cons, List.drop_zero]
        repeat (go_big_quiet_step (fail))
        refine wpQuiet_nil ?_
        rintro _ ⟨x3, rfl⟩
        go_wp2_with fail
        go_ret
        rw [HS2.out]
        exact ⟨rfl, h, (HST.out.ext (by simp) (by simp) _).hb, (HST.out.ext (by simp) (by simp) _).mv⟩
      · cases c
        · have HS2 := hide (show S = none from by rw [HS.out]; exact if_pos (.inr (.inr (.inr rfl))))
          have HF := hide (show ¬ insideP B.A.length ⟨2, qa, qd, qp, 3, qn⟩ from fun e => by have := Hc.out.2 e; cases this)
          clear HS Hc
          go_wp2_with fail
          refine (HWd.out _).mono ?_
          rintro e w1 ⟨rfl, rfl⟩
          go_wp2_with fail
          refine wp_region_qx 20 (by kernel_rfl) (by kernel_rfl) ?_
          simp only [List.take_succ_cons, List.take_zero, List.drop_succ_cons, List.drop_zero]
          repeat (go_big_quiet_step (fail))
          refine wpQuiet_nil ?_
          rintro _ ⟨x3, rfl⟩
          go_wp2_with fail
          refine (HI.out _ _ _).mono ?_
          rintro e w2 ⟨⟨r, rfl, hr⟩, hb2⟩
          have hrf : r = false := by cases r; rfl; exact absurd (hr.1 rfl) HF.out
          subst hrf
          obtain ⟨x4, rfl⟩ := ext_below ⟨x3, rfl⟩ hb2
          clear hb2 hr HF
          go_wp2_with fail
          go_ret
          rw [HS2.out]
          exact ⟨rfl, h, (HST.out.ext (by simp) (by simp) _).hb, (HST.out.ext (by simp) (by simp) _).mv⟩
        · have hin := Hc.out.1 rfl
          have hw8 : words ⟨2, qa, qd, qp, 3, qn⟩ ≤ 256 := by unfold insideP at hin; dsimp only at hin; omega
          have hwd : qn ≤ 128 ∧ words ⟨2, qa, qd, qp, 3, qn⟩ = (qn * 2 + 7) / 8 := by
            unfold words width at hw8 ⊢
            dsimp only at hw8 ⊢
            rw [if_neg (by omega), if_neg (by omega)] at hw8 ⊢
            by_cases hq : ¬ (2 : Nat) = 2 ∨ 128 < qn
            · rw [if_pos hq] at hw8; omega
            · rw [if_neg hq, if_pos (by omega), if_neg (by omega)]
              exact ⟨by omega, by simp⟩
          obtain ⟨hq1, hq2⟩ := hwd
          have hin2 : qa + (qn * 2 + 7) / 8 ≤ B.A.length := by unfold insideP at hin; dsimp only at hin; omega
          have hS4 := HS.out
          rw [if_neg (by simp; omega)] at hS4
          obtain ⟨J, hJ⟩ : ∃ J, J = qa + N * 2 / 8 := ⟨_, rfl⟩
          obtain ⟨T, hT⟩ : ∃ T, T = N * 2 % 8 * 8 := ⟨_, rfl⟩
          rw [← hJ, ← hT] at hS4
          have JI : (qa : Int) + (N : Int) * 2 / 8 = (J : Int) := by omega
          have TI : (N : Int) * 2 % 8 * 8 = (T : Int) := by omega
          have qq := u16_quo ((N : Int) * 2) 8 (by omega) (by omega) (by omega)
          have hTl : T < 64 := by omega
          have hJl : J < B.A.length := by omega
          obtain ⟨ga, ca, hga, hgl, hgp, cA, cAf⟩ := HH.out.aAt hJl
          have hAv := HH.out.ok.A J
          rw [hga] at hv0
          cases hv0
          have hgl2 : ga < w.heap.size + 1 := by omega
          simp only [Nat.reduceMul] at hS4
          have HP := hide (put_calls (B.A.getD J 0) V T 16 hAv o7 (by omega) (by omega))
          have hml := putN_lt (v := V) hAv T 16
          obtain ⟨M, hM⟩ : ∃ M, M = putN (B.A.getD J 0) V T 16 := ⟨_, rfl⟩
          rw [← hM] at HP hml hS4
          have HS2 := hide hS4
          have HGA := hide hga
          have HIN := hide hin
          obtain ⟨Av, hAvv⟩ : ∃ Av, Av = B.A.getD J 0 := ⟨_, rfl⟩
          rw [← hAvv] at HP hAv cA
          have HAv := hide hAvv
          clear hAvv
          clear HS hS4 hM hJ hT hga hin hw8 hq2 hin2 Hc
          have hNs : N < qn := by omega
          go_wp2_with fail
          refine (HWd.out _).mono ?_
          rintro e w1 ⟨rfl, rfl⟩
          go_wp2_with fail
          refine wp_region_qx 20 (by kernel_rfl) (by kernel_rfl) ?_
          simp only [List.take_succ_cons, List.take_zero, List.drop_succ_cons, List.drop_zero]
          repeat (go_big_quiet_step (fail))
          refine wpQuiet_nil ?_
          rintro _ ⟨x3, rfl⟩
          go_wp2_with fail
          refine (HI.out _ _ _).mono ?_
          rintro e w2 ⟨⟨r, rfl, hr⟩, hb2⟩
          have hrf : r = true := hr.2 HIN.out
          subst hrf
          obtain ⟨x4, rfl⟩ := ext_below ⟨x3, rfl⟩ hb2
          clear hb2 hr HI HIN
          go_wp2_with fail
          obtain ⟨W, hW⟩ : ∃ W, W = ((w.alloc (.cells #[.int .u8 kind, .int .u8 x, .int .u8 i, .int .u8 X, .int .u8 Y, .int .u16 N, .int .u64 V, .string s] 55)).alloc (.cells #[.int .u8 2, .int .u16 qa, .int .u8 qd, .int .u8 qp, .int .u8 3, .int .u16 qn] 62)).drew := ⟨_, rfl⟩
          rw [← hW]
          have hst : St p w h w.heap.size [.int .u8 kind, .int .u8 x, .int .u8 i, .int .u8 X, .int .u8 Y, .int .u16 N, .int .u64 V, .string s] (w.heap.size + 1) [.int .u8 2, .int .u16 qa, .int .u8 qd, .int .u8 qp, .int .u8 3, .int .u16 qn] W h B := by rw [hW]; exact HST.out
          have HS5 := hide hst
          have e6 := hst.r1.at_ (i := 6) rfl
          obtain ⟨k0, _⟩ := hst.hb.cell 0 (by omega)
          simp only [fOff, Nat.zero_add] at k0 e6
          rw [HGA.out] at k0
          obtain ⟨gb, cb, hgb, hgbl, hgbp, cB, cBf⟩ := hst.hb.aAt hJl
          rw [HGA.out] at hgb
          cases hgb
          clear hst hW HST c0 cA cAf c1 d0 d1 d2 d3 d4 d5 HH hp hp2 hgl hgl2 hg
          rw [← HAv.out] at cB
          refine wp_region_qy W 22 (by kernel_rfl) (by kernel_rfl) ⟨_, rfl⟩ ?_
          simp only [List.take_succ_cons, List.take_zero, List.drop_succ_cons, List.drop_zero]
          repeat (go_big_quiet_step ((go_at_call 87; exact Calls.ext_of_same (HP.out _))))
          refine wpQuiet_nil ?_
          rintro _ ⟨x5, rfl⟩
          go_wp2_with fail
          go_ret
          rw [HS2.out]
          refine ⟨rfl, h, ?_⟩
          have hst := HS5.out.ext (by simp) (by simp) x5
          have hst2 := hst.step (by simp) (by simp) (hst.hb.setA HGA.out hml (i := J)) (HB.put_mv p (i := 0) (by omega) HGA.out)
          exact ⟨hst2.hb, hst2.mv⟩
    · have hk2 : ((qk : Int) != 2) = true := by simp; omega
      have HS2 := hide (show S = none from by rw [HS.out]; exact if_pos (.inl hk))
      clear HS
      go_wp2_with fail
      refine (HWd.out _).mono ?_
      rintro e w1 ⟨rfl, rfl⟩
      go_wp2_with fail
      refine wp_region_qx 20 (by kernel_rfl) (by kernel_rfl) ?_
      simp only [List.take_succ_cons, List.take_zero, List.drop_succ_cons, List.drop_zero]
      repeat (go_big_quiet_step (fail))
      refine wpQuiet_nil ?_
      rintro _ ⟨x3, rfl⟩
      go_wp2_with fail
      go_ret
      rw [HS2.out]
      exact ⟨rfl, h, (HST.out.ext (by simp) (by simp) _).hb, (HST.out.ext (by simp) (by simp) _).mv⟩
  · rw [hw] at HWd HS
    clear hw
    by_cases hk : qk = 2
    · subst hk
      by_cases hN : qn ≤ N
      · have HS2 := hide (show S = none from by rw [HS.out]; exact if_pos (.inr (.inr (.inl hN))))
        clear HS
        go_wp2_with fail
        refine (HWd.out _).mono ?_
        rintro e w1 ⟨rfl, rfl⟩
        go_wp2_with fail
        refine wp_region_qx 20 (by kernel_rfl) (by kernel_rfl) ?_
        simp only [List.take_succ_cons, List.take_zero, List.drop_succ_cons, List.drop_zero]
        repeat (go_big_quiet_step (fail))
        refine wpQuiet_nil ?_
        rintro _ ⟨x3, rfl⟩
        go_wp2_with fail
        go_ret
        rw [HS2.out]
        exact ⟨rfl, h, (HST.out.ext (by simp) (by simp) _).hb, (HST.out.ext (by simp) (by simp) _).mv⟩
      · cases c
        · have HS2 := hide (show S = none from by rw [HS.out]; exact if_pos (.inr (.inr (.inr rfl))))
          have HF := hide (show ¬ insideP B.A.length ⟨2, qa, qd, qp, 4, qn⟩ from fun e => by have := Hc.out.2 e; cases this)
          clear HS Hc
          go_wp2_with fail
          refine (HWd.out _).mono ?_
          rintro e w1 ⟨rfl, rfl⟩
          go_wp2_with fail
          refine wp_region_qx 20 (by kernel_rfl) (by kernel_rfl) ?_
          simp only [List.take_succ_cons, List.take_zero, List.drop_succ_cons, List.drop_zero]
          repeat (go_big_quiet_step (fail))
          refine wpQuiet_nil ?_
          rintro _ ⟨x3, rfl⟩
          go_wp2_with fail
          refine (HI.out _ _ _).mono ?_
          rintro e w2 ⟨⟨r, rfl, hr⟩, hb2⟩
          have hrf : r = false := by cases r; rfl; exact absurd (hr.1 rfl) HF.out
          subst hrf
          obtain ⟨x4, rfl⟩ := ext_below ⟨x3, rfl⟩ hb2
          clear hb2 hr HF
          go_wp2_with fail
          go_ret
          rw [HS2.out]
          exact ⟨rfl, h, (HST.out.ext (by simp) (by simp) _).hb, (HST.out.ext (by simp) (by simp) _).mv⟩
        · have hin := Hc.out.1 rfl
          have hw8 : words ⟨2, qa, qd, qp, 4, qn⟩ ≤ 256 := by unfold insideP at hin; dsimp only at hin; omega
          have hwd : qn ≤ 128 ∧ words ⟨2, qa, qd, qp, 4, qn⟩ = (qn * 4 + 7) / 8 := by
            unfold words width at hw8 ⊢
            dsimp only at hw8 ⊢
            rw [if_neg (by omega), if_neg (by omega)] at hw8 ⊢
            by_cases hq : ¬ (2 : Nat) = 2 ∨ 128 < qn
            · rw [if_pos hq] at hw8; omega
            · rw [if_neg hq, if_pos (by omega), if_neg (by omega)]
              exact ⟨by omega, by simp⟩
          obtain ⟨hq1, hq2⟩ := hwd
          have hin2 : qa + (qn * 4 + 7) / 8 ≤ B.A.length := by unfold insideP at hin; dsimp only at hin; omega
          have hS4 := HS.out
          rw [if_neg (by simp; omega)] at hS4
          obtain ⟨J, hJ⟩ : ∃ J, J = qa + N * 4 / 8 := ⟨_, rfl⟩
          obtain ⟨T, hT⟩ : ∃ T, T = N * 4 % 8 * 8 := ⟨_, rfl⟩
          rw [← hJ, ← hT] at hS4
          have JI : (qa : Int) + (N : Int) * 4 / 8 = (J : Int) := by omega
          have TI : (N : Int) * 4 % 8 * 8 = (T : Int) := by omega
          have qq := u16_quo ((N : Int) * 4) 8 (by omega) (by omega) (by omega)
          have hTl : T < 64 := by omega
          have hJl : J < B.A.length := by omega
          obtain ⟨ga, ca, hga, hgl, hgp, cA, cAf⟩ := HH.out.aAt hJl
          have hAv := HH.out.ok.A J
          rw [hga] at hv0
          cases hv0
          have hgl2 : ga < w.heap.size + 1 := by omega
          simp only [Nat.reduceMul] at hS4
          have HP := hide (put_calls (B.A.getD J 0) V T 32 hAv o7 (by omega) (by omega))
          have hml := putN_lt (v := V) hAv T 32
          obtain ⟨M, hM⟩ : ∃ M, M = putN (B.A.getD J 0) V T 32 := ⟨_, rfl⟩
          rw [← hM] at HP hml hS4
          have HS2 := hide hS4
          have HGA := hide hga
          have HIN := hide hin
          obtain ⟨Av, hAvv⟩ : ∃ Av, Av = B.A.getD J 0 := ⟨_, rfl⟩
          rw [← hAvv] at HP hAv cA
          have HAv := hide hAvv
          clear hAvv
          clear HS hS4 hM hJ hT hga hin hw8 hq2 hin2 Hc
          have hNs : N < qn := by omega
          go_wp2_with fail
          refine (HWd.out _).mono ?_
          rintro e w1 ⟨rfl, rfl⟩
          go_wp2_with fail
          refine wp_region_qx 20 (by kernel_rfl) (by kernel_rfl) ?_
          simp only [List.take_succ_cons, List.take_zero, List.drop_succ_cons, List.drop_zero]
          repeat (go_big_quiet_step (fail))
          refine wpQuiet_nil ?_
          rintro _ ⟨x3, rfl⟩
          go_wp2_with fail
          refine (HI.out _ _ _).mono ?_
          rintro e w2 ⟨⟨r, rfl, hr⟩, hb2⟩
          have hrf : r = true := hr.2 HIN.out
          subst hrf
          obtain ⟨x4, rfl⟩ := ext_below ⟨x3, rfl⟩ hb2
          clear hb2 hr HI HIN
          go_wp2_with fail
          obtain ⟨W, hW⟩ : ∃ W, W = ((w.alloc (.cells #[.int .u8 kind, .int .u8 x, .int .u8 i, .int .u8 X, .int .u8 Y, .int .u16 N, .int .u64 V, .string s] 55)).alloc (.cells #[.int .u8 2, .int .u16 qa, .int .u8 qd, .int .u8 qp, .int .u8 4, .int .u16 qn] 62)).drew := ⟨_, rfl⟩
          rw [← hW]
          have hst : St p w h w.heap.size [.int .u8 kind, .int .u8 x, .int .u8 i, .int .u8 X, .int .u8 Y, .int .u16 N, .int .u64 V, .string s] (w.heap.size + 1) [.int .u8 2, .int .u16 qa, .int .u8 qd, .int .u8 qp, .int .u8 4, .int .u16 qn] W h B := by rw [hW]; exact HST.out
          have HS5 := hide hst
          have e6 := hst.r1.at_ (i := 6) rfl
          obtain ⟨k0, _⟩ := hst.hb.cell 0 (by omega)
          simp only [fOff, Nat.zero_add] at k0 e6
          rw [HGA.out] at k0
          obtain ⟨gb, cb, hgb, hgbl, hgbp, cB, cBf⟩ := hst.hb.aAt hJl
          rw [HGA.out] at hgb
          cases hgb
          clear hst hW HST c0 cA cAf c1 d0 d1 d2 d3 d4 d5 HH hp hp2 hgl hgl2 hg
          rw [← HAv.out] at cB
          refine wp_region_qy W 22 (by kernel_rfl) (by kernel_rfl) ⟨_, rfl⟩ ?_
          simp only [List.take_succ_cons, List.take_zero, List.drop_succ_cons, List.drop_zero]
          repeat (go_big_quiet_step ((go_at_call 87; exact Calls.ext_of_same (HP.out _))))
          refine wpQuiet_nil ?_
          rintro _ ⟨x5, rfl⟩
          go_wp2_with fail
          go_ret
          rw [HS2.out]
          refine ⟨rfl, h, ?_⟩
          have hst := HS5.out.ext (by simp) (by simp) x5
          have hst2 := hst.step (by simp) (by simp) (hst.hb.setA HGA.out hml (i := J)) (HB.put_mv p (i := 0) (by omega) HGA.out)
          exact ⟨hst2.hb, hst2.mv⟩
    · have hk2 : ((qk : Int) != 2) = true := by simp; omega
      have HS2 := hide (show S = none from by rw [HS.out]; exact if_pos (.inl hk))
      clear HS
      go_wp2_with fail
      refine (HWd.out _).mono ?_
      rintro e w1 ⟨rfl, rfl⟩
      go_wp2_with fail
      refine wp_region_qx 20 (by kernel_rfl) (by kernel_rfl) ?_
      simp only [List.take_succ_cons, List.take_zero, List.drop_succ_cons, List.drop_zero]
      repeat (go_big_quiet_step (fail))
      refine wpQuiet_nil ?_
      rintro _ ⟨x3, rfl⟩
      go_wp2_with fail
      go_ret
      rw [HS2.out]
      exact ⟨rfl, h, (HST.out.ext (by simp) (by simp) _).hb, (HST.out.ext (by simp) (by simp) _).mv⟩
  · rw [hw] at HWd HS
    clear hw
    by_cases hk : qk = 2
    · subst hk
      by_cases hN : qn ≤ N
      · have HS2 := hide (show S = none from by rw [HS.out]; exact if_pos (.inr (.inr (.inl hN))))
        clear HS
        go_wp2_with fail
        refine (HWd.out _).mono ?_
        rintro e w1 ⟨rfl, rfl⟩
        go_wp2_with fail
        refine wp_region_qx 20 (by kernel_rfl) (by kernel_rfl) ?_
        simp only [List.take_succ_cons, List.take_zero, List.drop_succ_cons, List.drop_zero]
        repeat (go_big_quiet_step (fail))
        refine wpQuiet_nil ?_
        rintro _ ⟨x3, rfl⟩
        go_wp2_with fail
        go_ret
        rw [HS2.out]
        exact ⟨rfl, h, (HST.out.ext (by simp) (by simp) _).hb, (HST.out.ext (by simp) (by simp) _).mv⟩
      · cases c
        · have HS2 := hide (show S = none from by rw [HS.out]; exact if_pos (.inr (.inr (.inr rfl))))
          have HF := hide (show ¬ insideP B.A.length ⟨2, qa, qd, qp, 5, qn⟩ from fun e => by have := Hc.out.2 e; cases this)
          clear HS Hc
          go_wp2_with fail
          refine (HWd.out _).mono ?_
          rintro e w1 ⟨rfl, rfl⟩
          go_wp2_with fail
          refine wp_region_qx 20 (by kernel_rfl) (by kernel_rfl) ?_
          simp only [List.take_succ_cons, List.take_zero, List.drop_succ_cons, List.drop_zero]
          repeat (go_big_quiet_step (fail))
          refine wpQuiet_nil ?_
          rintro _ ⟨x3, rfl⟩
          go_wp2_with fail
          refine (HI.out _ _ _).mono ?_
          rintro e w2 ⟨⟨r, rfl, hr⟩, hb2⟩
          have hrf : r = false := by cases r; rfl; exact absurd (hr.1 rfl) HF.out
          subst hrf
          obtain ⟨x4, rfl⟩ := ext_below ⟨x3, rfl⟩ hb2
          clear hb2 hr HF
          go_wp2_with fail
          go_ret
          rw [HS2.out]
          exact ⟨rfl, h, (HST.out.ext (by simp) (by simp) _).hb, (HST.out.ext (by simp) (by simp) _).mv⟩
        · have hin := Hc.out.1 rfl
          have hw8 : words ⟨2, qa, qd, qp, 5, qn⟩ ≤ 256 := by unfold insideP at hin; dsimp only at hin; omega
          have hwd : qn ≤ 128 ∧ words ⟨2, qa, qd, qp, 5, qn⟩ = (qn * 8 + 7) / 8 := by
            unfold words width at hw8 ⊢
            dsimp only at hw8 ⊢
            rw [if_neg (by omega), if_neg (by omega)] at hw8 ⊢
            by_cases hq : ¬ (2 : Nat) = 2 ∨ 128 < qn
            · rw [if_pos hq] at hw8; omega
            · rw [if_neg hq, if_pos (by omega), if_neg (by omega)]
              exact ⟨by omega, by simp⟩
          obtain ⟨hq1, hq2⟩ := hwd
          have hin2 : qa + (qn * 8 + 7) / 8 ≤ B.A.length := by unfold insideP at hin; dsimp only at hin; omega
          have hS4 := HS.out
          rw [if_neg (by simp; omega)] at hS4
          obtain ⟨J, hJ⟩ : ∃ J, J = qa + N * 8 / 8 := ⟨_, rfl⟩
          rw [← hJ, show N * 8 % 8 * 8 = 0 by omega] at hS4
          have JI : (qa : Int) + (N : Int) = (J : Int) := by omega
          have hJl : J < B.A.length := by omega
          obtain ⟨ga, ca, hga, hgl, hgp, cA, cAf⟩ := HH.out.aAt hJl
          have hAv := HH.out.ok.A J
          rw [hga] at hv0
          cases hv0
          have hgl2 : ga < w.heap.size + 1 := by omega
          simp only [Nat.reduceMul] at hS4
          have HP := hide (put_calls (B.A.getD J 0) V 0 64 hAv o7 (by omega) (by omega))
          have hml := putN_lt (v := V) hAv 0 64
          obtain ⟨M, hM⟩ : ∃ M, M = putN (B.A.getD J 0) V 0 64 := ⟨_, rfl⟩
          rw [← hM] at HP hml hS4
          have HS2 := hide hS4
          have HGA := hide hga
          have HIN := hide hin
          obtain ⟨Av, hAvv⟩ : ∃ Av, Av = B.A.getD J 0 := ⟨_, rfl⟩
          rw [← hAvv] at HP hAv cA
          have HAv := hide hAvv
          clear hAvv
          clear HS hS4 hM hJ  hga hin hw8 hq2 hin2 Hc
          have hNs : N < qn := by omega
          go_wp2_with fail
          refine (HWd.out _).mono ?_
          rintro e w1 ⟨rfl, rfl⟩
          go_wp2_with fail
          refine wp_region_qx 20 (by kernel_rfl) (by kernel_rfl) ?_
          simp only [List.take_succ_cons, List.take_zero, List.drop_succ_cons, List.drop_zero]
          repeat (go_big_quiet_step (fail))
          refine wpQuiet_nil ?_
          rintro _ ⟨x3, rfl⟩
          go_wp2_with fail
          refine (HI.out _ _ _).mono ?_
          rintro e w2 ⟨⟨r, rfl, hr⟩, hb2⟩
          have hrf : r = true := hr.2 HIN.out
          subst hrf
          obtain ⟨x4, rfl⟩ := ext_below ⟨x3, rfl⟩ hb2
          clear hb2 hr HI HIN
          go_wp2_with fail
          obtain ⟨W, hW⟩ : ∃ W, W = ((w.alloc (.cells #[.int .u8 kind, .int .u8 x, .int .u8 i, .int .u8 X, .int .u8 Y, .int .u16 N, .int .u64 V, .string s] 55)).alloc (.cells #[.int .u8 2, .int .u16 qa, .int .u8 qd, .int .u8 qp, .int .u8 5, .int .u16 qn] 62)).drew := ⟨_, rfl⟩
          rw [← hW]
          have hst : St p w h w.heap.size [.int .u8 kind, .int .u8 x, .int .u8 i, .int .u8 X, .int .u8 Y, .int .u16 N, .int .u64 V, .string s] (w.heap.size + 1) [.int .u8 2, .int .u16 qa, .int .u8 qd, .int .u8 qp, .int .u8 5, .int .u16 qn] W h B := by rw [hW]; exact HST.out
          have HS5 := hide hst
          have e6 := hst.r1.at_ (i := 6) rfl
          obtain ⟨k0, _⟩ := hst.hb.cell 0 (by omega)
          simp only [fOff, Nat.zero_add] at k0 e6
          rw [HGA.out] at k0
          obtain ⟨gb, cb, hgb, hgbl, hgbp, cB, cBf⟩ := hst.hb.aAt hJl
          rw [HGA.out] at hgb
          cases hgb
          clear hst hW HST c0 cA cAf c1 d0 d1 d2 d3 d4 d5 HH hp hp2 hgl hgl2 hg
          rw [← HAv.out] at cB
          refine wp_region_qy W 22 (by kernel_rfl) (by kernel_rfl) ⟨_, rfl⟩ ?_
          simp only [List.take_succ_cons, List.take_zero, List.drop_succ_cons, List.drop_zero]
          repeat (go_big_quiet_step ((go_at_call 87; exact Calls.ext_of_same (HP.out _))))
          refine wpQuiet_nil ?_
          rintro _ ⟨x5, rfl⟩
          go_wp2_with fail
          go_ret
          rw [HS2.out]
          refine ⟨rfl, h, ?_⟩
          have hst := HS5.out.ext (by simp) (by simp) x5
          have hst2 := hst.step (by simp) (by simp) (hst.hb.setA HGA.out hml (i := J)) (HB.put_mv p (i := 0) (by omega) HGA.out)
          exact ⟨hst2.hb, hst2.mv⟩
    · have hk2 : ((qk : Int) != 2) = true := by simp; omega
      have HS2 := hide (show S = none from by rw [HS.out]; exact if_pos (.inl hk))
      clear HS
      go_wp2_with fail
      refine (HWd.out _).mono ?_
      rintro e w1 ⟨rfl, rfl⟩
      go_wp2_with fail
      refine wp_region_qx 20 (by kernel_rfl) (by kernel_rfl) ?_
      simp only [List.take_succ_cons, List.take_zero, List.drop_succ_cons, List.drop_zero]
      repeat (go_big_quiet_step (fail))
      refine wpQuiet_nil ?_
      rintro _ ⟨x3, rfl⟩
      go_wp2_with fail
      go_ret
      rw [HS2.out]
      exact ⟨rfl, h, (HST.out.ext (by simp) (by simp) _).hb, (HST.out.ext (by simp) (by simp) _).mv⟩
end Go.Proofs.YgcfaaGreat

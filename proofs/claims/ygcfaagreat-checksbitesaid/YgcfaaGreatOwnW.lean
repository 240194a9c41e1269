import Derived.Test.YgcfaaGreatSlots
namespace Go.Proofs.YgcfaaGreat
open Go.RowKit Bits Bd
set_option linter.unusedVariables false
set_option maxRecDepth 100000
set_option linter.unusedSimpArgs false
attribute [local go_sem] World.cell?_ext World.frozen?_ext

theorem index117_0 (w : World) : (Instr.index 117 (.agg #[.int .i64 8, .int .i64 16, .int .i64 32, .int .i64 64]) (.int .u8 0)).run Faag.prog w = .ok (.int .i64 8) w := by kernel_rfl
theorem index117_1 (w : World) : (Instr.index 117 (.agg #[.int .i64 8, .int .i64 16, .int .i64 32, .int .i64 64]) (.int .u8 1)).run Faag.prog w = .ok (.int .i64 16) w := by kernel_rfl
theorem index117_2 (w : World) : (Instr.index 117 (.agg #[.int .i64 8, .int .i64 16, .int .i64 32, .int .i64 64]) (.int .u8 2)).run Faag.prog w = .ok (.int .i64 32) w := by kernel_rfl
theorem index117_3 (w : World) : (Instr.index 117 (.agg #[.int .i64 8, .int .i64 16, .int .i64 32, .int .i64 64]) (.int .u8 3)).run Faag.prog w = .ok (.int .i64 64) w := by kernel_rfl
attribute [local go_sem] index117_0 index117_1 index117_2 index117_3

set_option maxHeartbeats 8000000 in
theorem own_calls (p : Ptr) (hp : p.Ok) (w : World) : Calls Faag.prog 29 #[.agg (ptrC p).toArray] w fun e w' => e = .returned (.int .i64 ((words p : Nat) : Int)) ∧ Below w.heap.size w w' := by
  obtain ⟨W, hW⟩ : ∃ W, W = words p := ⟨_, rfl⟩
  rw [← hW]
  unfold words at hW
  obtain ⟨kind, at_, data, ptrs, code, count⟩ := p
  obtain ⟨h1, h2, h3, h4, h5, h6⟩ := hp
  dsimp only at h1 h2 h3 h4 h5 h6 hW
  unfold ptrC
  dsimp only
  have hcs : kind = 0 ∨ kind = 1 ∨ kind = 2 ∨ 3 ≤ kind := by omega
  have hsz : (data ≤ 8 ∧ ptrs ≤ 8) ∨ (8 < data) ∨ (data ≤ 8 ∧ 8 < ptrs) := by omega
  rcases hcs with rfl | rfl | rfl | hk
  · have HW := hide (show W = 0 by rw [hW, if_pos rfl])
    clear hW
    rcases hsz with ⟨s1, s2⟩ | s1 | ⟨s1, s2⟩
    all_goals
      go_enter Faag.func29, Faag.ntmps29
      go_wp2_with fail
      refine wp_region_qd 8 (by kernel_rfl) (by kernel_rfl) ?_
      simp only [List.take_succ_cons, List.take_zero, List.drop_succ_cons, List.drop_zero]
      repeat (go_big_quiet_step (fail))
      refine wpQuiet_nil ?_
      rintro _ ⟨nq, rfl⟩
      go_wp2_with fail
      go_ret
      exact ⟨ret_int (by have h9 := HW.out; omega), ((Below.refl _ _).alloc (Nat.le_refl _) _).step (below_drewN _ _)⟩
  · rw [if_neg (by omega)] at hW
    rcases hsz with ⟨s1, s2⟩ | s1 | ⟨s1, s2⟩
    · have HW := hide (show W = data + ptrs by rw [hW, if_pos ⟨rfl, s1, s2⟩])
      clear hW
      go_enter Faag.func29, Faag.ntmps29
      go_wp2_with fail
      refine wp_region_qd 8 (by kernel_rfl) (by kernel_rfl) ?_
      simp only [List.take_succ_cons, List.take_zero, List.drop_succ_cons, List.drop_zero]
      repeat (go_big_quiet_step (fail))
      refine wpQuiet_nil ?_
      rintro _ ⟨nq, rfl⟩
      go_wp2_with fail
      go_ret
      exact ⟨ret_int (by have h9 := HW.out; omega), ((Below.refl _ _).alloc (Nat.le_refl _) _).step (below_drewN _ _)⟩
    all_goals
      have HW := hide (show W = 257 by rw [hW, if_neg (by omega), if_pos (by omega)])
      clear hW
      go_enter Faag.func29, Faag.ntmps29
      go_wp2_with fail
      refine wp_region_qd 8 (by kernel_rfl) (by kernel_rfl) ?_
      simp only [List.take_succ_cons, List.take_zero, List.drop_succ_cons, List.drop_zero]
      repeat (go_big_quiet_step (fail))
      refine wpQuiet_nil ?_
      rintro _ ⟨nq, rfl⟩
      go_wp2_with fail
      go_ret
      exact ⟨ret_int (by have h9 := HW.out; omega), ((Below.refl _ _).alloc (Nat.le_refl _) _).step (below_drewN _ _)⟩
  · rw [if_neg (by omega), if_neg (by omega)] at hW
    by_cases hc : 128 < count
    · have HW := hide (show W = 257 by rw [hW, if_pos (by omega)])
      clear hW
      rcases hsz with ⟨s1, s2⟩ | s1 | ⟨s1, s2⟩
      all_goals
        go_enter Faag.func29, Faag.ntmps29
        go_wp2_with fail
        refine wp_region_qd 8 (by kernel_rfl) (by kernel_rfl) ?_
        simp only [List.take_succ_cons, List.take_zero, List.drop_succ_cons, List.drop_zero]
        repeat (go_big_quiet_step (fail))
        refine wpQuiet_nil ?_
        rintro _ ⟨nq, rfl⟩
        go_wp2_with fail
        go_ret
        exact ⟨ret_int (by have h9 := HW.out; omega), ((Below.refl _ _).alloc (Nat.le_refl _) _).step (below_drewN _ _)⟩
    · rw [if_neg (by omega)] at hW
      have hc' : count ≤ 128 := by omega
      have hcd : code = 2 ∨ code = 3 ∨ code = 4 ∨ code = 5 ∨ code = 6 ∨ code = 7 ∨ (code < 2 ∨ 7 < code) := by omega
      clear hc
      rcases hcd with rfl | rfl | rfl | rfl | rfl | rfl | hcd
      · have hw : width 2 = 1 := by decide
        rw [if_pos (by omega), hw] at hW
        have HW := hide hW
        clear hW hw
        obtain ⟨q, hq⟩ : ∃ q, q = count * 8 / 64 := ⟨_, rfl⟩
        obtain ⟨r, hr⟩ : ∃ r, r = count * 8 % 64 := ⟨_, rfl⟩
        have iq : (count : Int) * 8 / 64 = (q : Int) := by omega
        have ir : (count : Int) * 8 % 64 = (r : Int) := by omega
        have HQ := hide (And.intro hq hr)
        have ql : q ≤ 128 := by omega
        clear hq hr
        by_cases r0 : r = 0
        · subst r0
          rcases hsz with ⟨s1, s2⟩ | s1 | ⟨s1, s2⟩
          all_goals
            go_enter Faag.func29, Faag.ntmps29
            go_wp2_with fail
            refine wp_region_qd 8 (by kernel_rfl) (by kernel_rfl) ?_
            simp only [List.take_succ_cons, List.take_zero, List.drop_succ_cons, List.drop_zero]
            repeat (go_big_quiet_step (fail))
            refine wpQuiet_nil ?_
            rintro _ ⟨nq, rfl⟩
            go_wp2_with fail
            refine wp_region_qd 8 (by kernel_rfl) (by kernel_rfl) ?_
            simp only [List.take_succ_cons, List.take_zero, List.drop_succ_cons, List.drop_zero]
            repeat (go_big_quiet_step (fail))
            refine wpQuiet_nil ?_
            rintro _ ⟨nq, rfl⟩
            go_wp2_with fail
            go_ret
            exact ⟨ret_int (by have h1 := HW.out; have h2 := HQ.out; omega), ((Below.refl _ _).alloc (Nat.le_refl _) _).step (below_drewN _ _)⟩
        · have g0 : ((r : Int) != 0) = true := by simp; omega
          have rl : r < 64 := by have h2 := HQ.out; omega
          rcases hsz with ⟨s1, s2⟩ | s1 | ⟨s1, s2⟩
          all_goals
            go_enter Faag.func29, Faag.ntmps29
            go_wp2_with fail
            refine wp_region_qd 8 (by kernel_rfl) (by kernel_rfl) ?_
            simp only [List.take_succ_cons, List.take_zero, List.drop_succ_cons, List.drop_zero]
            repeat (go_big_quiet_step (fail))
            refine wpQuiet_nil ?_
            rintro _ ⟨nq, rfl⟩
            go_wp2_with fail
            refine wp_region_qd 8 (by kernel_rfl) (by kernel_rfl) ?_
            simp only [List.take_succ_cons, List.take_zero, List.drop_succ_cons, List.drop_zero]
            repeat (go_big_quiet_step (fail))
            refine wpQuiet_nil ?_
            rintro _ ⟨nq, rfl⟩
            go_wp2_with fail
            go_ret
            exact ⟨ret_int (by have h1 := HW.out; have h2 := HQ.out; omega), ((Below.refl _ _).alloc (Nat.le_refl _) _).step (below_drewN _ _)⟩
      · have hw : width 3 = 2 := by decide
        rw [if_pos (by omega), hw] at hW
        have HW := hide hW
        clear hW hw
        obtain ⟨q, hq⟩ : ∃ q, q = count * 16 / 64 := ⟨_, rfl⟩
        obtain ⟨r, hr⟩ : ∃ r, r = count * 16 % 64 := ⟨_, rfl⟩
        have iq : (count : Int) * 16 / 64 = (q : Int) := by omega
        have ir : (count : Int) * 16 % 64 = (r : Int) := by omega
        have HQ := hide (And.intro hq hr)
        have ql : q ≤ 128 := by omega
        clear hq hr
        by_cases r0 : r = 0
        · subst r0
          rcases hsz with ⟨s1, s2⟩ | s1 | ⟨s1, s2⟩
          all_goals
            go_enter Faag.func29, Faag.ntmps29
            go_wp2_with fail
            refine wp_region_qd 8 (by kernel_rfl) (by kernel_rfl) ?_
            simp only [List.take_succ_cons, List.take_zero, List.drop_succ_cons, List.drop_zero]
            repeat (go_big_quiet_step (fail))
            refine wpQuiet_nil ?_
            rintro _ ⟨nq, rfl⟩
            go_wp2_with fail
            refine wp_region_qd 8 (by kernel_rfl) (by kernel_rfl) ?_
            simp only [List.take_succ_cons, List.take_zero, List.drop_succ_cons, List.drop_zero]
            repeat (go_big_quiet_step (fail))
            refine wpQuiet_nil ?_
            rintro _ ⟨nq, rfl⟩
            go_wp2_with fail
            go_ret
            exact ⟨ret_int (by have h1 := HW.out; have h2 := HQ.out; omega), ((Below.refl _ _).alloc (Nat.le_refl _) _).step (below_drewN _ _)⟩
        · have g0 : ((r : Int) != 0) = true := by simp; omega
          have rl : r < 64 := by have h2 := HQ.out; omega
          rcases hsz with ⟨s1, s2⟩ | s1 | ⟨s1, s2⟩
          all_goals
            go_enter Faag.func29, Faag.ntmps29
            go_wp2_with fail
            refine wp_region_qd 8 (by kernel_rfl) (by kernel_rfl) ?_
            simp only [List.take_succ_cons, List.take_zero, List.drop_succ_cons, List.drop_zero]
            repeat (go_big_quiet_step (fail))
            refine wpQuiet_nil ?_
            rintro _ ⟨nq, rfl⟩
            go_wp2_with fail
            refine wp_region_qd 8 (by kernel_rfl) (by kernel_rfl) ?_
            simp only [List.take_succ_cons, List.take_zero, List.drop_succ_cons, List.drop_zero]
            repeat (go_big_quiet_step (fail))
            refine wpQuiet_nil ?_
            rintro _ ⟨nq, rfl⟩
            go_wp2_with fail
            go_ret
            exact ⟨ret_int (by have h1 := HW.out; have h2 := HQ.out; omega), ((Below.refl _ _).alloc (Nat.le_refl _) _).step (below_drewN _ _)⟩
      · have hw : width 4 = 4 := by decide
        rw [if_pos (by omega), hw] at hW
        have HW := hide hW
        clear hW hw
        obtain ⟨q, hq⟩ : ∃ q, q = count * 32 / 64 := ⟨_, rfl⟩
        obtain ⟨r, hr⟩ : ∃ r, r = count * 32 % 64 := ⟨_, rfl⟩
        have iq : (count : Int) * 32 / 64 = (q : Int) := by omega
        have ir : (count : Int) * 32 % 64 = (r : Int) := by omega
        have HQ := hide (And.intro hq hr)
        have ql : q ≤ 128 := by omega
        clear hq hr
        by_cases r0 : r = 0
        · subst r0
          rcases hsz with ⟨s1, s2⟩ | s1 | ⟨s1, s2⟩
          all_goals
            go_enter Faag.func29, Faag.ntmps29
            go_wp2_with fail
            refine wp_region_qd 8 (by kernel_rfl) (by kernel_rfl) ?_
            simp only [List.take_succ_cons, List.take_zero, List.drop_succ_cons, List.drop_zero]
            repeat (go_big_quiet_step (fail))
            refine wpQuiet_nil ?_
            rintro _ ⟨nq, rfl⟩
            go_wp2_with fail
            refine wp_region_qd 8 (by kernel_rfl) (by kernel_rfl) ?_
            simp only [List.take_succ_cons, List.take_zero, List.drop_succ_cons, List.drop_zero]
            repeat (go_big_quiet_step (fail))
            refine wpQuiet_nil ?_
            rintro _ ⟨nq, rfl⟩
            go_wp2_with fail
            go_ret
            exact ⟨ret_int (by have h1 := HW.out; have h2 := HQ.out; omega), ((Below.refl _ _).alloc (Nat.le_refl _) _).step (below_drewN _ _)⟩
        · have g0 : ((r : Int) != 0) = true := by simp; omega
          have rl : r < 64 := by have h2 := HQ.out; omega
          rcases hsz with ⟨s1, s2⟩ | s1 | ⟨s1, s2⟩
          all_goals
            go_enter Faag.func29, Faag.ntmps29
            go_wp2_with fail
            refine wp_region_qd 8 (by kernel_rfl) (by kernel_rfl) ?_
            simp only [List.take_succ_cons, List.take_zero, List.drop_succ_cons, List.drop_zero]
            repeat (go_big_quiet_step (fail))
            refine wpQuiet_nil ?_
            rintro _ ⟨nq, rfl⟩
            go_wp2_with fail
            refine wp_region_qd 8 (by kernel_rfl) (by kernel_rfl) ?_
            simp only [List.take_succ_cons, List.take_zero, List.drop_succ_cons, List.drop_zero]
            repeat (go_big_quiet_step (fail))
            refine wpQuiet_nil ?_
            rintro _ ⟨nq, rfl⟩
            go_wp2_with fail
            go_ret
            exact ⟨ret_int (by have h1 := HW.out; have h2 := HQ.out; omega), ((Below.refl _ _).alloc (Nat.le_refl _) _).step (below_drewN _ _)⟩
      · have hw : width 5 = 8 := by decide
        rw [if_pos (by omega), hw] at hW
        have HW := hide hW
        clear hW hw
        obtain ⟨q, hq⟩ : ∃ q, q = count * 64 / 64 := ⟨_, rfl⟩
        obtain ⟨r, hr⟩ : ∃ r, r = count * 64 % 64 := ⟨_, rfl⟩
        have iq : (count : Int) * 64 / 64 = (q : Int) := by omega
        have ir : (count : Int) * 64 % 64 = (r : Int) := by omega
        have HQ := hide (And.intro hq hr)
        have ql : q ≤ 128 := by omega
        clear hq hr
        by_cases r0 : r = 0
        · subst r0
          rcases hsz with ⟨s1, s2⟩ | s1 | ⟨s1, s2⟩
          all_goals
            go_enter Faag.func29, Faag.ntmps29
            go_wp2_with fail
            refine wp_region_qd 8 (by kernel_rfl) (by kernel_rfl) ?_
            simp only [List.take_succ_cons, List.take_zero, List.drop_succ_cons, List.drop_zero]
            repeat (go_big_quiet_step (fail))
            refine wpQuiet_nil ?_
            rintro _ ⟨nq, rfl⟩
            go_wp2_with fail
            refine wp_region_qd 8 (by kernel_rfl) (by kernel_rfl) ?_
            simp only [List.take_succ_cons, List.take_zero, List.drop_succ_cons, List.drop_zero]
            repeat (go_big_quiet_step (fail))
            refine wpQuiet_nil ?_
            rintro _ ⟨nq, rfl⟩
            go_wp2_with fail
            go_ret
            exact ⟨ret_int (by have h1 := HW.out; have h2 := HQ.out; omega), ((Below.refl _ _).alloc (Nat.le_refl _) _).step (below_drewN _ _)⟩
        · have h2 := HQ.out
          omega
      · rw [if_neg (by omega), if_pos rfl] at hW
        have HW := hide hW
        clear hW
        rcases hsz with ⟨s1, s2⟩ | s1 | ⟨s1, s2⟩
        all_goals
          go_enter Faag.func29, Faag.ntmps29
          go_wp2_with fail
          refine wp_region_qd 8 (by kernel_rfl) (by kernel_rfl) ?_
          simp only [List.take_succ_cons, List.take_zero, List.drop_succ_cons, List.drop_zero]
          repeat (go_big_quiet_step (fail))
          refine wpQuiet_nil ?_
          rintro _ ⟨nq, rfl⟩
          go_wp2_with fail
          go_ret
          exact ⟨ret_int (by have h9 := HW.out; omega), ((Below.refl _ _).alloc (Nat.le_refl _) _).step (below_drewN _ _)⟩
      · rw [if_neg (by omega), if_neg (by omega)] at hW
        rcases hsz with ⟨s1, s2⟩ | s1 | ⟨s1, s2⟩
        · rw [if_pos ⟨rfl, s1, s2⟩] at hW
          obtain ⟨M, hM⟩ : ∃ M, M = count * (data + ptrs) := ⟨_, rfl⟩
          have hMi : (count : Int) * ((data : Int) + ptrs) = (M : Int) := by rw [hM, Int.natCast_mul, Int.natCast_add]
          have hMl : M ≤ 2048 := by rw [hM]; have := Nat.mul_le_mul hc' (show data + ptrs ≤ 16 by omega); omega
          rw [← hM] at hW
          have HW := hide hW
          clear hW hM
          by_cases hm : 1 + M ≤ 257
          all_goals
            go_enter Faag.func29, Faag.ntmps29
            go_wp2_with fail
            refine wp_region_qd 8 (by kernel_rfl) (by kernel_rfl) ?_
            simp only [List.take_succ_cons, List.take_zero, List.drop_succ_cons, List.drop_zero]
            repeat (go_big_quiet_step (fail))
            refine wpQuiet_nil ?_
            rintro _ ⟨nq, rfl⟩
            go_wp2_with fail
            go_ret
            exact ⟨ret_int (by have h9 := HW.out; omega), ((Below.refl _ _).alloc (Nat.le_refl _) _).step (below_drewN _ _)⟩
        all_goals
          have HW := hide (show W = 257 by rw [hW, if_neg (by omega)])
          clear hW
          go_enter Faag.func29, Faag.ntmps29
          go_wp2_with fail
          refine wp_region_qd 8 (by kernel_rfl) (by kernel_rfl) ?_
          simp only [List.take_succ_cons, List.take_zero, List.drop_succ_cons, List.drop_zero]
          repeat (go_big_quiet_step (fail))
          refine wpQuiet_nil ?_
          rintro _ ⟨nq, rfl⟩
          go_wp2_with fail
          go_ret
          exact ⟨ret_int (by have h9 := HW.out; omega), ((Below.refl _ _).alloc (Nat.le_refl _) _).step (below_drewN _ _)⟩
      · have HW := hide (show W = 257 by rw [hW, if_neg (by omega), if_neg (by omega), if_neg (by omega)])
        clear hW
        have g2 : ((code : Int) == 2) = false := by simp; omega
        have g3 : ((code : Int) == 3) = false := by simp; omega
        have g4 : ((code : Int) == 4) = false := by simp; omega
        have g5 : ((code : Int) == 5) = false := by simp; omega
        have g6 : ((code : Int) == 6) = false := by simp; omega
        have g7 : ((code : Int) == 7) = false := by simp; omega
        clear hcd
        rcases hsz with ⟨s1, s2⟩ | s1 | ⟨s1, s2⟩
        all_goals
          go_enter Faag.func29, Faag.ntmps29
          go_wp2_with fail
          refine wp_region_qd 8 (by kernel_rfl) (by kernel_rfl) ?_
          simp only [List.take_succ_cons, List.take_zero, List.drop_succ_cons, List.drop_zero]
          repeat (go_big_quiet_step (fail))
          refine wpQuiet_nil ?_
          rintro _ ⟨nq, rfl⟩
          go_wp2_with fail
          go_ret
          exact ⟨ret_int (by have h9 := HW.out; omega), ((Below.refl _ _).alloc (Nat.le_refl _) _).step (below_drewN _ _)⟩
  · have HW := hide (show W = 257 by rw [hW, if_neg (by omega), if_neg (by omega), if_pos (by omega)])
    clear hW
    have g0 : ((kind : Int) == 0) = false := by simp; omega
    have g1 : ((kind : Int) == 1) = false := by simp; omega
    have g2 : ((kind : Int) == 2) = false := by simp; omega
    clear hk
    rcases hsz with ⟨s1, s2⟩ | s1 | ⟨s1, s2⟩
    all_goals
      go_enter Faag.func29, Faag.ntmps29
      go_wp2_with fail
      refine wp_region_qd 8 (by kernel_rfl) (by kernel_rfl) ?_
      simp only [List.take_succ_cons, List.take_zero, List.drop_succ_cons, List.drop_zero]
      repeat (go_big_quiet_step (fail))
      refine wpQuiet_nil ?_
      rintro _ ⟨nq, rfl⟩
      go_wp2_with fail
      go_ret
      exact ⟨ret_int (by have h9 := HW.out; omega), ((Below.refl _ _).alloc (Nat.le_refl _) _).step (below_drewN _ _)⟩
end Go.Proofs.YgcfaaGreat

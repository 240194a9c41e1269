import Derived.Test.YgcfaaGreatCheck
namespace Go.Proofs.YgcfaaGreat
open Go.RowKit Bits Bd
set_option linter.unusedVariables false
set_option maxRecDepth 100000
set_option linter.unusedSimpArgs false
attribute [local go_sem] World.cell?_ext World.frozen?_ext

/-- law.slots of a Ptr: first, count, run, stride. -/
def slotsQ (p : Ptr) : Nat × Nat × Nat × Nat :=
  if p.kind = 1 then (p.at_ + p.data, p.ptrs, p.ptrs, p.data + p.ptrs)
  else if p.kind = 2 ∧ p.code = 6 then (p.at_, p.count, 1, 1)
  else if p.kind = 2 ∧ p.code = 7 then (p.at_ + p.data, p.count * p.ptrs, p.ptrs, p.data + p.ptrs)
  else (0, 0, 0, 0)
def slotsC (q : Nat × Nat × Nat × Nat) : Value := .agg #[.int .i64 (q.1 : Nat), .int .i64 (q.2.1 : Nat), .int .i64 (q.2.2.1 : Nat), .int .i64 (q.2.2.2 : Nat)]

set_option maxHeartbeats 4000000 in
theorem slotsOf_calls (p : Ptr) (hp : p.Ok) (w : World) : Calls Faag.prog 67 #[.agg (ptrC p).toArray] w fun e w' => e = .returned (slotsC (slotsQ p)) ∧ Below w.heap.size w w' := by
  obtain ⟨q, hq⟩ : ∃ q, q = slotsQ p := ⟨_, rfl⟩
  rw [← hq]
  unfold slotsQ at hq
  obtain ⟨kind, at_, data, ptrs, code, count⟩ := p
  obtain ⟨h1, h2, h3, h4, h5, h6⟩ := hp
  dsimp only at h1 h2 h3 h4 h5 h6 hq
  unfold ptrC
  dsimp only
  have z1 : w.heap.size < w.heap.size + 1 := by omega
  have hcs : kind = 1 ∨ (kind = 2 ∧ code = 6) ∨ (kind = 2 ∧ code = 7) ∨ (¬ kind = 1 ∧ ¬ kind = 2) ∨ (kind = 2 ∧ ¬ code = 6 ∧ ¬ code = 7) := by omega
  rcases hcs with rfl | ⟨rfl, rfl⟩ | ⟨rfl, rfl⟩ | ⟨k1, k2⟩ | ⟨rfl, k1, k2⟩
  · rw [if_pos rfl] at hq
    subst hq
    go_enter Faag.func67, Faag.ntmps67
    go_wp2_with fail
    refine wp_region_qd 7 (by kernel_rfl) (by kernel_rfl) ?_
    simp only [List.take_succ_cons, List.take_zero, List.drop_succ_cons, List.drop_zero]
    repeat (go_big_quiet_step (fail))
    refine wpQuiet_nil ?_
    rintro _ ⟨nq, rfl⟩
    go_wp2_with fail
    refine bodyPost_ret (v := .agg #[.int .i64 ((at_ : Int) + data), .int .i64 (ptrs : Int), .int .i64 (ptrs : Int), .int .i64 ((data : Int) + ptrs)]) (by simp [results, Faag.results67, go_sem]) rfl ⟨rfl, ?_⟩
    repeat (refine Below.setCell ?_ (by dsimp only; omega) _)
    exact (below_two w _ _).step (below_drewN _ _)
  · rw [if_neg (by omega), if_pos ⟨rfl, rfl⟩] at hq
    subst hq
    go_enter Faag.func67, Faag.ntmps67
    go_wp2_with fail
    refine wp_region_qd 7 (by kernel_rfl) (by kernel_rfl) ?_
    simp only [List.take_succ_cons, List.take_zero, List.drop_succ_cons, List.drop_zero]
    repeat (go_big_quiet_step (fail))
    refine wpQuiet_nil ?_
    rintro _ ⟨nq, rfl⟩
    go_wp2_with fail
    refine bodyPost_ret (v := .agg #[.int .i64 (at_ : Int), .int .i64 (count : Int), .int .i64 1, .int .i64 1]) (by simp [results, Faag.results67, go_sem]) rfl ⟨rfl, ?_⟩
    repeat (refine Below.setCell ?_ (by dsimp only; omega) _)
    exact (below_two w _ _).step (below_drewN _ _)
  · rw [if_neg (by omega), if_neg (by omega), if_pos ⟨rfl, rfl⟩] at hq
    have hm : count * ptrs ≤ 65535 * 255 := Nat.mul_le_mul (by omega) (by omega)
    have hmi : ((count : Int) * (ptrs : Int)) ≤ 16711425 := by rw [← Int.natCast_mul]; omega
    have hm0 : 0 ≤ ((count : Int) * (ptrs : Int)) := by rw [← Int.natCast_mul]; omega
    clear hm
    subst hq
    go_enter Faag.func67, Faag.ntmps67
    go_wp2_with fail
    refine wp_region_qd 7 (by kernel_rfl) (by kernel_rfl) ?_
    simp only [List.take_succ_cons, List.take_zero, List.drop_succ_cons, List.drop_zero]
    repeat (go_big_quiet_step (fail))
    refine wpQuiet_nil ?_
    rintro _ ⟨nq, rfl⟩
    go_wp2_with fail
    refine bodyPost_ret (v := .agg #[.int .i64 ((at_ : Int) + data), .int .i64 ((count : Int) * ptrs), .int .i64 (ptrs : Int), .int .i64 ((data : Int) + ptrs)]) (by simp [results, Faag.results67, go_sem]) rfl ⟨rfl, ?_⟩
    repeat (refine Below.setCell ?_ (by dsimp only; omega) _)
    exact (below_two w _ _).step (below_drewN _ _)
  · rw [if_neg k1, if_neg (by omega), if_neg (by omega)] at hq
    subst hq
    have g1 : ((kind : Int) == 1) = false := by simp; omega
    have g2 : ((kind : Int) == 2) = false := by simp; omega
    clear k1 k2
    go_enter Faag.func67, Faag.ntmps67
    go_wp2_with fail
    refine wp_region_qd 7 (by kernel_rfl) (by kernel_rfl) ?_
    simp only [List.take_succ_cons, List.take_zero, List.drop_succ_cons, List.drop_zero]
    repeat (go_big_quiet_step (fail))
    refine wpQuiet_nil ?_
    rintro _ ⟨nq, rfl⟩
    go_wp2_with fail
    refine bodyPost_ret (v := .agg #[.int .i64 0, .int .i64 0, .int .i64 0, .int .i64 0]) (by simp [results, Faag.results67, go_sem]) rfl ⟨rfl, ?_⟩
    repeat (refine Below.setCell ?_ (by dsimp only; omega) _)
    exact (below_two w _ _).step (below_drewN _ _)
  · rw [if_neg (by omega), if_neg (by omega), if_neg (by omega)] at hq
    subst hq
    have g1 : ((code : Int) == 6) = false := by simp; omega
    have g2 : ((code : Int) == 7) = false := by simp; omega
    clear k1 k2
    go_enter Faag.func67, Faag.ntmps67
    go_wp2_with fail
    refine wp_region_qd 7 (by kernel_rfl) (by kernel_rfl) ?_
    simp only [List.take_succ_cons, List.take_zero, List.drop_succ_cons, List.drop_zero]
    repeat (go_big_quiet_step (fail))
    refine wpQuiet_nil ?_
    rintro _ ⟨nq, rfl⟩
    go_wp2_with fail
    refine bodyPost_ret (v := .agg #[.int .i64 0, .int .i64 0, .int .i64 0, .int .i64 0]) (by simp [results, Faag.results67, go_sem]) rfl ⟨rfl, ?_⟩
    repeat (refine Below.setCell ?_ (by dsimp only; omega) _)
    exact (below_two w _ _).step (below_drewN _ _)

theorem at_calls (f c r s k : Nat) (hf : f < 100000) (hk : k < 100000) (hr : 0 < r ∧ r < 100000) (hs : s < 100000) (h : k < r ∨ (r = 1 ∧ s = 1)) (w : World) : Calls Faag.prog 68 #[slotsC (f, c, r, s), .int .i64 k] w fun e w' => e = .returned (.int .i64 ((f + k : Nat) : Int)) ∧ Below w.heap.size w w' := by
  unfold slotsC
  dsimp only
  obtain ⟨hr1, hr2⟩ := hr
  rcases h with h | ⟨rfl, rfl⟩
  · have hq : (k : Int) / (r : Int) = 0 := Int.ediv_eq_zero_of_lt (by omega) (by omega)
    have hm : (k : Int) % (r : Int) = k := Int.emod_eq_of_lt (by omega) (by omega)
    go_enter Faag.func68, Faag.ntmps68
    go_wp2_with fail
    refine wp_region_qd 14 (by kernel_rfl) (by kernel_rfl) ?_
    simp only [List.take_succ_cons, List.take_zero, List.drop_succ_cons, List.drop_zero]
    repeat (go_big_quiet_step (fail))
    refine wpQuiet_nil ?_
    rintro _ ⟨nq, rfl⟩
    go_wp2_with fail
    go_ret
    exact ⟨ret_int (by omega), ((Below.refl _ _).alloc (Nat.le_refl _) _).step (below_drewN _ _)⟩
  · go_enter Faag.func68, Faag.ntmps68
    go_wp2_with fail
    refine wp_region_qd 14 (by kernel_rfl) (by kernel_rfl) ?_
    simp only [List.take_succ_cons, List.take_zero, List.drop_succ_cons, List.drop_zero]
    repeat (go_big_quiet_step (fail))
    refine wpQuiet_nil ?_
    rintro _ ⟨nq, rfl⟩
    go_wp2_with fail
    go_ret
    exact ⟨ret_int (by omega), ((Below.refl _ _).alloc (Nat.le_refl _) _).step (below_drewN _ _)⟩
end Go.Proofs.YgcfaaGreat

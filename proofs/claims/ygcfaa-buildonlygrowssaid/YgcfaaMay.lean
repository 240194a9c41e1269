import Derived.Test.YgcfaaRoom
namespace Go.Proofs.Ygcfaa
open Go.RowKit Bits Bd
set_option linter.unusedVariables false
set_option maxRecDepth 100000
set_option linter.unusedSimpArgs false
attribute [local go_sem] World.cell?_ext World.frozen?_ext

theorem retMay_eq {a b x y : Int} (h1 : a = b) (h2 : x = y) : Ending.returned (.tuple #[.int .i64 a, .int .u64 x]) = .returned (.tuple #[.int .i64 b, .int .u64 y]) := by rw [h1, h2]

theorem wrap_ones (c : Int) (s a : Nat) (hc : c = ((2 ^ s - 1 : Nat) : Int)) (h : a + s ≤ 64) : IntKind.u64.wrap (c * 2 ^ a) = ((ones s a : Nat) : Int) := by
  have h1 := ones_lt (r := s) (a := a) (by omega)
  rw [IntKind.wrap_u64]
  have e : c * 2 ^ a = ((ones s a : Nat) : Int) := by
    unfold ones
    rw [hc, Int.natCast_mul, Int.natCast_pow]
    rfl
  rw [e]
  omega
theorem wrap_ones1 (a : Nat) (h : a + 1 ≤ 64) : IntKind.u64.wrap (2 ^ a) = ((ones 1 a : Nat) : Int) := by
  have := wrap_ones 1 1 a rfl h
  rwa [Int.one_mul] at this

set_option maxHeartbeats 4000000 in
theorem maySlot_calls (q : Ptr) (hq : q.Ok) (op : Opn) (hop : op.Ok) (h3 : ¬ op.kind = 3) (h4 : ¬ op.kind = 4) (hk : q.kind = 1 ∨ q.kind = 2) (w : World) :
    Calls Faag.prog 38 #[.agg (ptrC q).toArray, .agg (opC op).toArray] w fun e w' =>
      e = .returned (.tuple #[.int .i64 ((q.at_ + (if q.kind = 1 then q.data else 0) + op.i : Nat) : Int), .int .u64 18446744073709551615]) ∧ Below w.heap.size w w' := by
  obtain ⟨kind, at_, data, ptrs, code, count⟩ := q
  obtain ⟨okind, x, i, X, Y, N, V, s⟩ := op
  obtain ⟨q1, q2, q3, q4, q5, q6⟩ := hq
  obtain ⟨o1, o2, o3, o4, o5, o6, o7⟩ := hop
  unfold ptrC opC
  dsimp only at *
  have e3 : ((okind : Int) == 3) = false := by simp; omega
  have e4 : ((okind : Int) == 4) = false := by simp; omega
  rcases hk with rfl | rfl
  · go_enter Faag.func38, Faag.ntmps38
    go_wp2_with fail
    go_ret2
    refine ⟨retMay_eq (by simp) rfl, ((Below.refl _ w).alloc (Nat.le_refl _) _).alloc (by simp) _⟩
  · go_enter Faag.func38, Faag.ntmps38
    go_wp2_with fail
    go_ret2
    refine ⟨retMay_eq (by simp) rfl, ((Below.refl _ w).alloc (Nat.le_refl _) _).alloc (by simp) _⟩

set_option maxHeartbeats 4000000 in
theorem mayData_calls (q : Ptr) (hq : q.Ok) (op : Opn) (hop : op.Ok) (h3 : op.kind = 3) (hx : op.x = 0 ∨ op.x = 3 ∨ op.x = 4 ∨ op.x = 5 ∨ op.x = 6) (w : World) :
    Calls Faag.prog 38 #[.agg (ptrC q).toArray, .agg (opC op).toArray] w fun e w' =>
      e = .returned (.tuple #[.int .i64 ((q.at_ + op.n * 2 ^ op.x / 64 : Nat) : Int), .int .u64 ((ones (2 ^ op.x) (op.n * 2 ^ op.x % 64) : Nat) : Int)]) ∧ Below w.heap.size w w' := by
  obtain ⟨kind, at_, data, ptrs, code, count⟩ := q
  obtain ⟨okind, x, i, X, Y, N, V, s⟩ := op
  obtain ⟨q1, q2, q3, q4, q5, q6⟩ := hq
  obtain ⟨o1, o2, o3, o4, o5, o6, o7⟩ := hop
  unfold ptrC opC
  dsimp only at *
  subst h3
  rcases hx with rfl | rfl | rfl | rfl | rfl
  all_goals
    go_enter Faag.func38, Faag.ntmps38
    go_wp2_with fail
    refine wp_region_qx 15 (by kernel_rfl) (by kernel_rfl) ?_
    simp only [List.take_succ_cons, List.take_zero, List.drop_succ_cons, List.drop_zero]
    repeat (go_big_quiet_step (fail))
    refine wpQuiet_nil ?_
    rintro _ ⟨x1, rfl⟩
    go_wp2_with fail
    go_ret2
    refine ⟨retMay_eq ?_ ?_, (((Below.refl _ w).alloc (Nat.le_refl _) _).alloc (by simp) _).trans ((World.below_ext _ x1).mono (by simp; omega))⟩
    · omega
    · first
        | (rw [show N * 2 ^ 0 % 64 = N % 64 by omega]; exact wrap_ones1 _ (by omega))
        | exact wrap_ones 255 8 _ rfl (by omega)
        | exact wrap_ones 65535 16 _ rfl (by omega)
        | exact wrap_ones 4294967295 32 _ rfl (by omega)
        | (rw [show N * 2 ^ 6 % 64 = 0 by omega]; rfl)

set_option maxHeartbeats 4000000 in
theorem mayElem_calls (q : Ptr) (hq : q.Ok) (op : Opn) (hop : op.Ok) (h4 : op.kind = 4) (hx : q.code = 2 ∨ q.code = 3 ∨ q.code = 4 ∨ q.code = 5) (w : World) :
    Calls Faag.prog 38 #[.agg (ptrC q).toArray, .agg (opC op).toArray] w fun e w' =>
      e = .returned (.tuple #[.int .i64 ((q.at_ + op.n * width q.code / 8 : Nat) : Int), .int .u64 ((ones (width q.code * 8) (op.n * width q.code % 8 * 8) : Nat) : Int)]) ∧ Below w.heap.size w w' := by
  obtain ⟨kind, at_, data, ptrs, code, count⟩ := q
  obtain ⟨okind, x, i, X, Y, N, V, s⟩ := op
  obtain ⟨q1, q2, q3, q4, q5, q6⟩ := hq
  obtain ⟨o1, o2, o3, o4, o5, o6, o7⟩ := hop
  unfold ptrC opC
  dsimp only at *
  subst h4
  rcases hx with rfl | rfl | rfl | rfl
  all_goals
    simp only [show width 2 = 1 from rfl, show width 3 = 2 from rfl, show width 4 = 4 from rfl, show width 5 = 8 from rfl]
    go_enter Faag.func38, Faag.ntmps38
    go_wp2_with fail
    refine wp_region_qx 13 (by kernel_rfl) (by kernel_rfl) ?_
    simp only [List.take_succ_cons, List.take_zero, List.drop_succ_cons, List.drop_zero]
    repeat (go_big_quiet_step (fail))
    refine wpQuiet_nil ?_
    rintro _ ⟨x1, rfl⟩
    go_wp2_with fail
    go_ret2
    refine ⟨retMay_eq ?_ ?_, (((Below.refl _ w).alloc (Nat.le_refl _) _).alloc (by simp) _).trans ((World.below_ext _ x1).mono (by simp; omega))⟩
    · omega
    · first
        | (rw [show N * 1 % 8 * 8 = N * 8 % 64 by omega]; exact wrap_ones 255 8 _ rfl (by omega))
        | (rw [show N * 2 % 8 * 8 = N * 16 % 64 by omega]; exact wrap_ones 65535 16 _ rfl (by omega))
        | (rw [show N * 4 % 8 * 8 = N * 32 % 64 by omega]; exact wrap_ones 4294967295 32 _ rfl (by omega))
        | (rw [show N * 8 % 8 * 8 = 0 by omega]; rfl)
end Go.Proofs.Ygcfaa

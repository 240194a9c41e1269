import Derived.Test.YgcfaaGreatWire
namespace Go.Proofs.YgcfaaGreat
open Go.RowKit Bits Bd
set_option linter.unusedVariables false
set_option maxRecDepth 100000
set_option linter.unusedSimpArgs false

/-- A byte is handed back. -/
def RetByte (e : Ending) : Prop := ∃ n : Nat, e = .returned (.int .u8 (n : Int)) ∧ n < 256
theorem RetByte.of_mod (x : Int) : RetByte (.returned (.int .u8 (x % 256))) := by
  refine ⟨(x % 256).toNat, ?_, by omega⟩
  congr 2
  omega

/-- bitsx.Ones, as the walk writes it. -/
def onesI (x : Int) : Int :=
  let a := IntKind.u64.wrap (x - bits .and .u64 (x / 2) 6148914691236517205)
  let b := IntKind.u64.wrap (bits .and .u64 a 3689348814741910323 + bits .and .u64 (a / 4) 3689348814741910323)
  IntKind.u64.wrap (bits .and .u64 (IntKind.u64.wrap (b + b / 16)) 1085102592571150095 * 72340172838076673) / 72057594037927936 % 256

set_option maxHeartbeats 4000000 in
theorem onesI_calls (x : Nat) (hx : x < 18446744073709551616) (w : World) : Calls Faag.prog 77 #[.int .u64 x] w fun e w' => e = .returned (.int .u8 (onesI x)) ∧ w' = w := by
  go_enter Faag.func77, Faag.ntmps77
  go_wp2_with fail
  go_ret
  exact ⟨rfl, rfl⟩
theorem ones_calls (x : Nat) (hx : x < 18446744073709551616) (w : World) : Calls Faag.prog 77 #[.int .u64 x] w fun e w' => RetByte e ∧ w' = w := by
  refine (onesI_calls x hx w).mono ?_
  rintro e w' ⟨rfl, rfl⟩
  exact ⟨RetByte.of_mod _, rfl⟩

/-- The number of 1 bits of a byte. -/
def pc (t : Nat) : Nat := t % 2 + t / 2 % 2 + t / 4 % 2 + t / 8 % 2 + t / 16 % 2 + t / 32 % 2 + t / 64 % 2 + t / 128 % 2
theorem pc_all : ((List.range 256).all fun t => decide (onesI (t : Int) = (pc t : Int)) && (t == 0 || (pc (t &&& (t - 1)) + 1 == pc t && decide (t &&& (t - 1) < t)))) = true := by kernel_rfl
theorem pc_ones {t : Nat} (h : t < 256) : onesI (t : Int) = (pc t : Int) := by
  have := List.all_eq_true.1 pc_all t (List.mem_range.2 h)
  rw [Bool.and_eq_true, decide_eq_true_eq] at this
  exact this.1
theorem pc_step {t : Nat} (h : t < 256) (h0 : t ≠ 0) : pc (t &&& (t - 1)) + 1 = pc t ∧ t &&& (t - 1) < t := by
  have := List.all_eq_true.1 pc_all t (List.mem_range.2 h)
  rw [Bool.and_eq_true, decide_eq_true_eq, Bool.or_eq_true, Bool.and_eq_true, decide_eq_true_eq, beq_iff_eq, beq_iff_eq] at this
  exact this.2.resolve_left h0
theorem onesB_calls (t : Nat) (h : t < 256) (w : World) : Calls Faag.prog 77 #[.int .u64 t] w fun e w' => e = .returned (.int .u8 ((pc t : Nat) : Int)) ∧ w' = w := by
  refine (onesI_calls t (by omega) w).mono ?_
  rintro e w' ⟨rfl, rfl⟩
  rw [pc_ones h]
  exact ⟨rfl, rfl⟩
theorem pc_le (t : Nat) : pc t ≤ 8 := by unfold pc; omega

set_option maxHeartbeats 4000000 in
theorem low_calls (x : Nat) (hx : x < 18446744073709551616) (w : World) : Calls Faag.prog 78 #[.int .u64 x] w fun e w' => RetByte e ∧ w' = w := by
  obtain ⟨y, hy, hyl⟩ : ∃ y : Nat, IntKind.u64.wrap (bits .and .u64 (x : Int) (IntKind.u64.wrap (-(x : Int))) - 1) = (y : Int) ∧ y < 18446744073709551616 := by
    rw [IntKind.wrap_u64]
    exact ⟨((bits .and .u64 (x : Int) (IntKind.u64.wrap (-(x : Int))) - 1) % 18446744073709551616).toNat, by omega, by omega⟩
  have ho := hide (ones_calls y hyl)
  go_enter Faag.func78, Faag.ntmps78
  go_wp2_with fail
  refine (ho.out _).mono ?_
  rintro e w' ⟨⟨n, rfl, hn⟩, rfl⟩
  go_wp2_with fail
  go_ret
  exact ⟨⟨n, rfl, hn⟩, rfl⟩

set_option maxHeartbeats 4000000 in
theorem tagOf_calls (x : Nat) (hx : x < 18446744073709551616) (w : World) : Calls Faag.prog 73 #[.int .u64 x] w fun e w' => RetByte e ∧ w' = w := by
  go_enter Faag.func73, Faag.ntmps73
  go_wp2_with fail
  go_ret
  refine ⟨?_, rfl⟩
  exact RetByte.of_mod _

/-- A bool is handed back. -/
def RetSomeB (e : Ending) : Prop := ∃ b, e = .returned (.bool b)

set_option maxHeartbeats 4000000 in
theorem isDense_calls (t : Nat) (h : t < 256) (w : World) : Calls Faag.prog 98 #[.int .u8 t] w fun e w' => RetSomeB e ∧ w' = w := by
  go_enter Faag.func98, Faag.ntmps98
  go_wp2_with fail
  go_ret
  exact ⟨⟨_, rfl⟩, rfl⟩
end Go.Proofs.YgcfaaGreat

import Derived.Test.YgcfaaGreatBitsx
import Derived.Test.YgcfaaGreatPlain
namespace Go.Proofs.YgcfaaGreat
open Go.RowKit Bits Bd
set_option linter.unusedVariables false

/-- A wire.Ptr as a value. -/
def ptrC (p : Ptr) : List Value := [.int .u8 (p.kind : Nat), .int .u16 (p.at_ : Nat), .int .u8 (p.data : Nat), .int .u8 (p.ptrs : Nat), .int .u8 (p.code : Nat), .int .u16 (p.count : Nat)]

theorem pow_small {c : Nat} (h1 : 2 ≤ c) (h2 : c ≤ 5) : 2 ^ (c - 2) < 256 := by
  have : c = 2 ∨ c = 3 ∨ c = 4 ∨ c = 5 := by omega
  rcases this with rfl | rfl | rfl | rfl <;> decide
theorem ret_int {k : IntKind} {a b : Int} (h : a = b) : Ending.returned (.int k a) = .returned (.int k b) := by rw [h]

theorem width_calls (c : Nat) (hc : c < 256) (w : World) : Calls Faag.prog 88 #[.int .u8 c] w fun e w' => e = .returned (.int .u8 (width c : Nat)) ∧ w' = w := by
  by_cases h : c < 2 ∨ 5 < c
  · have hw : width c = 0 := if_pos h
    rw [hw]
    clear hw
    rcases h with h | h
    all_goals
      go_enter Faag.func88, Faag.ntmps88
      go_wp2
      go_ret
      exact ⟨rfl, rfl⟩
  · have hw : width c = 2 ^ (c - 2) := if_neg h
    have h1 : 2 ≤ c := by omega
    have h2 : c ≤ 5 := by omega
    have hp : (2 ^ (c - 2) % 256 : Int) = ((width c : Nat) : Int) := by
      have := pow_small h1 h2
      rw [hw, two_pow_int]
      omega
    have Hw := hide hw
    clear hw h
    have Hp := hide hp
    clear hp
    go_enter Faag.func88, Faag.ntmps88
    go_wp2
    go_ret
    exact ⟨ret_int Hp.out, rfl⟩

set_option maxHeartbeats 4000000 in
theorem words_calls (p : Ptr) (hp : p.Ok) (w : World) : Calls Faag.prog 54 #[.agg (ptrC p).toArray] w fun e w' => e = .returned (.int .u16 (words p : Nat)) ∧ Below w.heap.size w w' := by
  obtain ⟨kind, at_, data, ptrs, code, count⟩ := p
  obtain ⟨h1, h2, h3, h4, h5, h6⟩ := hp
  dsimp only at h1 h2 h3 h4 h5 h6
  unfold ptrC
  dsimp only
  by_cases hA : kind = 2 ∧ count ≤ 128 ∧ 2 ≤ code ∧ code ≤ 5
  · obtain ⟨rfl, hc, h7, h8⟩ := hA
    have hwd := width_le code
    obtain ⟨wd, hwd'⟩ : ∃ wd, wd = width code := ⟨_, rfl⟩
    have hm : count * wd ≤ 1024 := by rw [hwd']; have := Nat.mul_le_mul hc hwd; omega
    have hwl : wd ≤ 8 := by rw [hwd']; exact hwd
    have hmi : ((count : Int) * (wd : Int)) ≤ 1024 := by rw [← Int.natCast_mul]; omega
    have hm0 : 0 ≤ ((count : Int) * (wd : Int)) := by rw [← Int.natCast_mul]; omega
    have hq := u16_quo ((count : Int) * wd + 7) 8 (by omega) (by omega) (by omega)
    have hf : words ⟨2, at_, data, ptrs, code, count⟩ = (count * wd + 7) / 8 := by
      rw [hwd']
      unfold words
      dsimp only
      rw [if_neg (by omega), if_neg (by omega), if_neg (by omega), if_pos ⟨h7, h8⟩]
    rw [hf, Int.natCast_ediv, Int.natCast_add, Int.natCast_mul]
    have hcw : Hid (∀ W, Calls Faag.prog 88 #[.int .u8 code] W fun e W' => e = .returned (.int .u8 (wd : Nat)) ∧ W' = W) := hide (by rw [hwd']; exact width_calls code h5)
    clear hf hwd'
    by_cases hd : data ≤ 8
    all_goals
      by_cases hpt : ptrs ≤ 8
    all_goals
      go_enter Faag.func54, Faag.ntmps54
      go_wp2_with fail
      refine wp_region_qd 6 (by kernel_rfl) (by kernel_rfl) ?_
      simp only [List.take_succ_cons, List.take_zero, List.drop_succ_cons, List.drop_zero]
      repeat (go_big_quiet_step ((go_at_call 88; exact Calls.quiet_of_same (hcw.out _))))
      refine wpQuiet_nil ?_
      rintro _ ⟨nq, rfl⟩
      go_wp2_with fail
      go_ret
      exact ⟨rfl, ((Below.refl _ _).alloc (Nat.le_refl _) _).trans ⟨rfl, rfl, rfl, Nat.le_refl _, fun _ _ => rfl⟩⟩
  by_cases hB : kind = 2 ∧ count ≤ 128 ∧ code = 7 ∧ data ≤ 8 ∧ ptrs ≤ 8
  · obtain ⟨rfl, hc, rfl, hd, hpt⟩ := hB
    have hm : count * (data + ptrs) ≤ 2048 := by have := Nat.mul_le_mul hc (show data + ptrs ≤ 16 by omega); omega
    have hmi : ((count : Int) * ((data : Int) + ptrs)) ≤ 2048 := by rw [← Int.natCast_add, ← Int.natCast_mul]; omega
    have hm0 : 0 ≤ ((count : Int) * ((data : Int) + ptrs)) := by rw [← Int.natCast_add, ← Int.natCast_mul]; omega
    have hmc : ((count : Int) * ((data : Int) + ptrs)) = ((count * (data + ptrs) : Nat) : Int) := by rw [Int.natCast_mul, Int.natCast_add]
    have Hmc := hide hmc
    clear hmc hA
    go_enter Faag.func54, Faag.ntmps54
    go_wp2_with fail
    all_goals
      go_ret
      refine ⟨ret_int ?_, (Below.refl _ _).alloc (Nat.le_refl _) _⟩
      have hmc := Hmc.out
      unfold words
      dsimp only
      rw [if_neg (by omega), if_neg (by omega), if_neg (by omega), if_neg (by omega), if_neg (by omega), if_pos (by omega)]
      show _ = ((min (1 + count * (data + ptrs)) 257 : Nat) : Int)
      omega
  · have HA := hide hA
    have HB := hide hB
    clear hA hB
    go_enter Faag.func54, Faag.ntmps54
    go_wp2_with fail
    all_goals
      have hA := HA.out
      have hB := HB.out
      simp only [beq_iff_eq, beq_eq_false_iff_ne, ne_eq] at *
      first
      | (exfalso; omega)
      | (go_ret
         refine ⟨ret_int ?_, (Below.refl _ _).alloc (Nat.le_refl _) _⟩
         unfold words
         dsimp only
         repeat (first | rw [if_pos (by omega)] | rw [if_neg (by omega)])
         try omega)
end Go.Proofs.YgcfaaGreat

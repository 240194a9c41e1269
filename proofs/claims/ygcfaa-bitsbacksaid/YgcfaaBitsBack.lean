import Derived.Test.YgcfaaBitsx
import Derived.LoopN
namespace Go.Proofs.Ygcfaa
open Go.RowKit Bits
set_option linter.unusedVariables false
attribute [local go_sem] World.cell?_ext World.frozen?_ext

theorem and_one_bit' (v j : Nat) (hv : v < 18446744073709551616) : bits .and .u64 ((v : Int) / 2 ^ j) 1 = (((v.testBit j).toNat : Nat) : Int) := by
  have h1 : v / 2 ^ j < 18446744073709551616 := Nat.lt_of_le_of_lt (Nat.div_le_self _ _) hv
  have h2 := u64_and_nat (v / 2 ^ j) 1 h1 (by omega)
  rw [show ((v / 2 ^ j : Nat) : Int) = (v : Int) / 2 ^ j by rw [Int.natCast_ediv, Int.natCast_pow]; rfl] at h2
  rw [show ((1 : Nat) : Int) = 1 by rfl] at h2
  rw [h2, Nat.and_one_is_mod, Nat.testBit_eq_decide_div_mod_eq]
  have : v / 2 ^ j % 2 < 2 := Nat.mod_lt _ (by omega)
  generalize v / 2 ^ j % 2 = q at this
  match q, this with
  | 0, _ => rfl
  | 1, _ => rfl

theorem take_put (w v a n : Nat) (hw : w < 18446744073709551616) (h : a + n ≤ 64) : takeN (putN w v a n) a n = v % 2 ^ n := by
  unfold takeN
  rw [if_pos h]
  apply Nat.eq_of_testBit_eq
  intro i
  rw [Nat.testBit_mod_two_pow, Nat.testBit_mod_two_pow, Nat.testBit_div_two_pow, putN_testBit _ _ _ _ _ hw h]
  by_cases hi : i < n
  · rw [if_pos (by omega), show i + a - a = i by omega]
  · simp [hi]

theorem low_form (v m n : Nat) (h : m + n = 64) : IntKind.u64.wrap ((v : Int) * 2 ^ m) / 2 ^ m = ((v % 2 ^ n : Nat) : Int) := by
  have e : (v : Int) * 2 ^ m = ((v * 2 ^ m : Nat) : Int) := by rw [two_pow_int, ← Int.natCast_mul]
  have h2 : (18446744073709551616 : Nat) = 2 ^ n * 2 ^ m := by rw [← Nat.pow_add, show n + m = 64 by omega]
  rw [e, wrap_nat, h2, Nat.mul_mod_mul_right, two_pow_int, ← Int.natCast_ediv, Nat.mul_div_cancel _ (Nat.two_pow_pos m)]

theorem signed_form (v m n : Nat) (h : m + n = 64) (h0 : 0 < n) : wrap64 (IntKind.u64.wrap ((v : Int) * 2 ^ m)) / 2 ^ m = signI v n := by
  have e : (v : Int) * 2 ^ m = ((v * 2 ^ m : Nat) : Int) := by rw [two_pow_int, ← Int.natCast_mul]
  have h2 : (18446744073709551616 : Nat) = 2 ^ n * 2 ^ m := by rw [← Nat.pow_add, show n + m = 64 by omega]
  have h3 : (9223372036854775808 : Nat) = 2 ^ (n - 1) * 2 ^ m := by rw [← Nat.pow_add, show n - 1 + m = 63 by omega]
  have hm := Nat.two_pow_pos m
  rw [e, wrap_nat, show v * 2 ^ m % 18446744073709551616 = v % 2 ^ n * 2 ^ m by rw [h2, Nat.mul_mod_mul_right]]
  have hlt : v % 2 ^ n < 2 ^ n := Nat.mod_lt _ (Nat.two_pow_pos n)
  have hlt2 : v % 2 ^ n * 2 ^ m < 18446744073709551616 := by rw [h2]; exact Nat.mul_lt_mul_of_pos_right hlt hm
  unfold signI
  rw [if_neg (by omega)]
  by_cases hbig : 2 ^ (n - 1) ≤ v % 2 ^ n
  · have hge : 9223372036854775808 ≤ v % 2 ^ n * 2 ^ m := by rw [h3]; exact Nat.mul_le_mul_right _ hbig
    have hwv : wrap64 ((v % 2 ^ n * 2 ^ m : Nat) : Int) = ((v % 2 ^ n * 2 ^ m : Nat) : Int) - 18446744073709551616 := by unfold wrap64; omega
    rw [hwv, show (18446744073709551616 : Int) = ((2 ^ n * 2 ^ m : Nat) : Int) by rw [← h2]; rfl, two_pow_int, Int.natCast_mul, Int.natCast_mul, ← Int.sub_mul, Int.mul_ediv_cancel _ (by omega)]
    by_cases h64 : 64 ≤ n
    · have : n = 64 := by omega
      subst this
      rw [if_pos (by omega)]
      unfold wrap64
      omega
    · rw [if_neg h64, if_pos hbig]
  · have hl : v % 2 ^ n * 2 ^ m < 9223372036854775808 := by rw [h3]; exact Nat.mul_lt_mul_of_pos_right (by omega) hm
    have hwv : wrap64 ((v % 2 ^ n * 2 ^ m : Nat) : Int) = ((v % 2 ^ n * 2 ^ m : Nat) : Int) := by unfold wrap64; omega
    rw [hwv, two_pow_int, Int.natCast_mul, Int.mul_ediv_cancel _ (by omega)]
    by_cases h64 : 64 ≤ n
    · have : n = 64 := by omega
      subst this
      rw [if_pos (by omega)]
      unfold wrap64
      omega
    · rw [if_neg h64, if_neg hbig]

set_option maxRecDepth 100000 in
set_option maxHeartbeats 2000000 in
theorem bitsBack_calls (w v a n : Nat) (hw : w < 18446744073709551616) (hv : v < 18446744073709551616) (ha : a ≤ 255) (hn : n ≤ 255) (W : World) :
    Calls Faag.prog 5 #[.int .u64 w, .int .u64 v, .int .u8 a, .int .u8 n] W fun e W' => e = .returned (.bool true) ∧ Below W.heap.size W W' := by
  have ix : ∀ (k : Nat) (x0 x1 x2 x3 x4 x5 x6 x7 : Int) (W : World), True := fun _ _ _ _ _ _ _ _ _ _ => trivial
  have ix0 : ∀ (x0 x1 x2 x3 x4 x5 x6 x7 : Value) W, (Instr.index 28 (.agg #[x0, x1, x2, x3, x4, x5, x6, x7]) (.int .i64 0)).run Faag.prog W = .ok x0 W := fun _ _ _ _ _ _ _ _ _ => by kernel_rfl
  have ix1 : ∀ (x0 x1 x2 x3 x4 x5 x6 x7 : Value) W, (Instr.index 28 (.agg #[x0, x1, x2, x3, x4, x5, x6, x7]) (.int .i64 1)).run Faag.prog W = .ok x1 W := fun _ _ _ _ _ _ _ _ _ => by kernel_rfl
  have ix2 : ∀ (x0 x1 x2 x3 x4 x5 x6 x7 : Value) W, (Instr.index 28 (.agg #[x0, x1, x2, x3, x4, x5, x6, x7]) (.int .i64 2)).run Faag.prog W = .ok x2 W := fun _ _ _ _ _ _ _ _ _ => by kernel_rfl
  have ix3 : ∀ (x0 x1 x2 x3 x4 x5 x6 x7 : Value) W, (Instr.index 28 (.agg #[x0, x1, x2, x3, x4, x5, x6, x7]) (.int .i64 3)).run Faag.prog W = .ok x3 W := fun _ _ _ _ _ _ _ _ _ => by kernel_rfl
  have ix4 : ∀ (x0 x1 x2 x3 x4 x5 x6 x7 : Value) W, (Instr.index 28 (.agg #[x0, x1, x2, x3, x4, x5, x6, x7]) (.int .i64 4)).run Faag.prog W = .ok x4 W := fun _ _ _ _ _ _ _ _ _ => by kernel_rfl
  have ix5 : ∀ (x0 x1 x2 x3 x4 x5 x6 x7 : Value) W, (Instr.index 28 (.agg #[x0, x1, x2, x3, x4, x5, x6, x7]) (.int .i64 5)).run Faag.prog W = .ok x5 W := fun _ _ _ _ _ _ _ _ _ => by kernel_rfl
  have ix6 : ∀ (x0 x1 x2 x3 x4 x5 x6 x7 : Value) W, (Instr.index 28 (.agg #[x0, x1, x2, x3, x4, x5, x6, x7]) (.int .i64 6)).run Faag.prog W = .ok x6 W := fun _ _ _ _ _ _ _ _ _ => by kernel_rfl
  have ix7 : ∀ (x0 x1 x2 x3 x4 x5 x6 x7 : Value) W, (Instr.index 28 (.agg #[x0, x1, x2, x3, x4, x5, x6, x7]) (.int .i64 7)).run Faag.prog W = .ok x7 W := fun _ _ _ _ _ _ _ _ _ => by kernel_rfl
  clear ix
  have hB := Below.refl W.heap.size W
  have HB := hide hB
  clear hB
  go_enter Faag.func5, Faag.ntmps5
  go_wp2
  refine wp_loop_rounds 9 ?_
  iterate 8
    rw [rounds_succ]
    go_wp2_with fail
    refine wp_region_qx 9 (by kernel_rfl) (by kernel_rfl) ?_
    simp only [List.take_succ_cons, List.take_zero, List.drop_succ_cons, List.drop_zero]
    repeat (go_big_quiet_step ((go_at_call 18; exact Calls.ext_of (bytes_calls w hw _))))
    refine wpQuiet_nil ?_
    intro w1 hx
    replace HB := hide (HB.out.ext hx)
    clear hx
    go_wp2_with fail
  rw [rounds_succ]
  clear ix0 ix1 ix2 ix3 ix4 ix5 ix6 ix7
  go_wp2_with fail
  refine (bytes_calls w hw _).mono ?_
  rintro e w2 ⟨rfl, hb2⟩
  replace HB := hide (HB.out.step hb2)
  clear hb2
  go_wp2_with fail
  refine (word_calls _ _ _ _ _ _ _ _ (by omega) (by omega) (by omega) (by omega) (by omega) (by omega) (by omega) (by omega) _).mono ?_
  rintro e w3 ⟨rfl, hb3⟩
  replace HB := hide (HB.out.step hb3)
  clear hb3
  by_cases hfit : a + n ≤ 64
  · go_wp2_with fail
    refine (put_calls w v a n hw hv ha hn _).mono ?_
    rintro e w4 ⟨rfl, rfl⟩
    obtain ⟨y, hy⟩ : ∃ y, y = putN w v a n := ⟨_, rfl⟩
    rw [← hy]
    have hyl : y < 18446744073709551616 := by rw [hy]; exact putN_lt hw a n
    have Hy := hide hy
    clear hy
    go_wp2_with fail
    go_loop [11] (fun i => ∃ k : Nat, k ≤ 64 ∧ i = .int .i64 k) (fun i => 64 - (intOf i).toNat)
    case atStart => exact ⟨0, by omega, rfl⟩
    case round =>
      obtain ⟨k, hk, rfl⟩ := hrel
      by_cases hlt : k < 64
      · have hbit : y.testBit k = if a ≤ k ∧ k < a + n then v.testBit (k - a) else w.testBit k := by rw [Hy.out]; exact putN_testBit w v a n k hw hfit
        have fw := and_one_bit' w k hw
        have fy := and_one_bit' y k hyl
        have fv := and_one_bit' v (k - a) hv
        by_cases h1 : a ≤ k
        · by_cases h2 : k < a + n
          · rw [if_pos ⟨h1, h2⟩] at hbit
            rw [hbit] at fy
            clear hbit
            generalize v.testBit (k - a) = b1 at *
            generalize w.testBit k = b2 at *
            go_wp2_with fail
            go_round
            case rel => exact ⟨k + 1, by omega, by go_num⟩
            case measure => simp [intOf]; omega
          · rw [if_neg (by omega)] at hbit
            rw [hbit] at fy
            clear hbit
            generalize w.testBit k = b2 at *
            go_wp2_with fail
            go_round
            case rel => exact ⟨k + 1, by omega, by go_num⟩
            case measure => simp [intOf]; omega
        · rw [if_neg (by omega)] at hbit
          rw [hbit] at fy
          clear hbit
          generalize w.testBit k = b2 at *
          go_wp2_with fail
          go_round
          case rel => exact ⟨k + 1, by omega, by go_num⟩
          case measure => simp [intOf]; omega
      · have htp := take_put w v a n hw hfit
        rw [← Hy.out] at htp
        have Htp := hide htp
        clear htp
        by_cases hn0 : n = 0
        · subst hn0
          have hs0 : signI v 0 = 0 := rfl
          have Hs0 := hide hs0
          clear hs0
          have hz : IntKind.u64.wrap ((v : Int) * 18446744073709551616) = 0 := by rw [IntKind.wrap_u64]; omega
          go_wp2_with fail
          refine (take_calls y a 0 hyl ha (by omega) _).mono ?_
          rintro e w5 ⟨rfl, rfl⟩
          rw [Htp.out, Nat.pow_zero, Nat.mod_one]
          go_wp2_with fail
          refine (sign_calls v 0 hv (by omega) _).mono ?_
          rintro e w6 ⟨rfl, rfl⟩
          rw [Hs0.out]
          go_wp2_with fail
          go_ret
          exact ⟨rfl, HB.out⟩
        · have hn1 : 0 < n := by omega
          have lf := low_form v (64 - n) n (by omega)
          have sf := signed_form v (64 - n) n (by omega) hn1
          go_wp2_with fail
          refine (take_calls y a n hyl ha hn _).mono ?_
          rintro e w5 ⟨rfl, rfl⟩
          rw [Htp.out]
          go_wp2_with fail
          refine (sign_calls v n hv hn _).mono ?_
          rintro e w6 ⟨rfl, rfl⟩
          go_wp2_with fail
          go_ret
          exact ⟨rfl, HB.out⟩
  · have hp : putN w v a n = w := if_neg hfit
    have ht : takeN w a n = 0 := if_neg hfit
    have Hp := hide hp
    have Ht := hide ht
    clear hp ht
    go_wp2_with fail
    refine (put_calls w v a n hw hv ha hn _).mono ?_
    rintro e w4 ⟨rfl, rfl⟩
    rw [Hp.out]
    go_wp2_with fail
    refine (take_calls w a n hw ha hn _).mono ?_
    rintro e w5 ⟨rfl, rfl⟩
    rw [Ht.out]
    go_wp2_with fail
    go_ret
    exact ⟨rfl, HB.out⟩
end Go.Proofs.Ygcfaa

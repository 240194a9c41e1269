import Derived.Test.YgcfaaGreatProg
import Derived.Test.YgcfaaGreatBase
import Derived.Test.YgcfaaGreatBits
namespace Go.Proofs.YgcfaaGreat
open Go.RowKit Bits
set_option linter.unusedVariables false

/-- 2^64. -/
def maskN (n : Nat) : Nat := ones (min n 64) 0
theorem maskN_lt (n : Nat) : maskN n < 18446744073709551616 := ones_lt (by omega)
theorem maskN_eq {n : Nat} (h : n ≤ 64) : maskN n = 2 ^ n - 1 := by unfold maskN ones; rw [Nat.min_eq_left h]; omega

theorem wrap_nat (x : Nat) : IntKind.u64.wrap (x : Int) = ((x % 18446744073709551616 : Nat) : Int) := by rw [IntKind.wrap_u64]; omega
theorem two_pow_int (n : Nat) : (2 ^ n : Int) = ((2 ^ n : Nat) : Int) := by rw [Int.natCast_pow]; rfl

theorem mask_form (n : Nat) : IntKind.u64.wrap (IntKind.u64.wrap (2 ^ min n 64) - 1) = ((maskN n : Nat) : Int) := by
  rw [two_pow_int, wrap_nat, IntKind.wrap_u64]
  have h0 : 0 < 2 ^ min n 64 := Nat.two_pow_pos _
  have h1 : 2 ^ min n 64 ≤ 2 ^ 64 := Nat.pow_le_pow_right (by omega) (by omega)
  unfold maskN ones
  rw [Nat.pow_zero, Nat.mul_one]
  by_cases h : 2 ^ min n 64 = 18446744073709551616
  · rw [h]; rfl
  · rw [Nat.mod_eq_of_lt (by omega)]; omega

theorem mask_calls (n : Nat) (hn : n ≤ 255) (w : World) :
    Calls Faag.prog 95 #[.int .u8 n] w fun e w' => e = .returned (.int .u64 (maskN n : Nat)) ∧ w' = w := by
  have hm := mask_form n
  go_enter Faag.func95, Faag.ntmps95
  go_wp2
  go_ret
  exact ⟨rfl, rfl⟩

theorem fits_calls (a n : Nat) (ha : a ≤ 255) (hn : n ≤ 255) (w : World) :
    Calls Faag.prog 94 #[.int .u8 a, .int .u8 n] w fun e w' => e = .returned (.bool (decide (a + n ≤ 64))) ∧ w' = w := by
  have hd : decide ((a : Int) + n ≤ 64) = decide (a + n ≤ 64) := by rw [decide_eq_decide]; omega
  go_enter Faag.func94, Faag.ntmps94
  go_wp2
  go_ret
  exact ⟨by first | rfl | simp, rfl⟩

def takeN (w a n : Nat) : Nat := if a + n ≤ 64 then w / 2 ^ a % 2 ^ n else 0
theorem takeN_lt {w : Nat} (hw : w < 18446744073709551616) (a n : Nat) : takeN w a n < 18446744073709551616 := by
  unfold takeN
  split
  · exact Nat.lt_of_le_of_lt (Nat.le_trans (Nat.mod_le _ _) (Nat.div_le_self _ _)) hw
  · omega

theorem take_form (w a n : Nat) (hw : w < 18446744073709551616) (h : a + n ≤ 64) : bits .and .u64 ((w : Int) / 2 ^ a) ((maskN n : Nat) : Int) = ((takeN w a n : Nat) : Int) := by
  have e : (w : Int) / 2 ^ a = ((w / 2 ^ a : Nat) : Int) := by rw [Int.natCast_ediv, two_pow_int]
  rw [e, u64_and_nat _ _ (Nat.lt_of_le_of_lt (Nat.div_le_self _ _) hw) (maskN_lt n), maskN_eq (by omega), Nat.and_two_pow_sub_one_eq_mod]
  unfold takeN
  rw [if_pos h]

theorem take_calls (w a n : Nat) (hw : w < 18446744073709551616) (ha : a ≤ 255) (hn : n ≤ 255) (W : World) :
    Calls Faag.prog 62 #[.int .u64 w, .int .u8 a, .int .u8 n] W fun e W' => e = .returned (.int .u64 (takeN w a n : Nat)) ∧ W' = W := by
  by_cases h : a + n ≤ 64
  · have hd : decide (a + n ≤ 64) = true := decide_eq_true h
    have ht := take_form w a n hw h
    go_enter Faag.func62, Faag.ntmps62
    go_wp2_with (first | (go_at_call 94; refine (fits_calls a n ha hn _).mono ?_; rintro e w' ⟨rfl, rfl⟩) | (go_at_call 95; refine (mask_calls n hn _).mono ?_; rintro e w' ⟨rfl, rfl⟩))
    go_ret
    exact ⟨rfl, rfl⟩
  · have hd : decide (a + n ≤ 64) = false := decide_eq_false h
    have ht : takeN w a n = 0 := if_neg h
    have HT := hide ht
    clear ht
    go_enter Faag.func62, Faag.ntmps62
    go_wp2_with (first | (go_at_call 94; refine (fits_calls a n ha hn _).mono ?_; rintro e w' ⟨rfl, rfl⟩) | (go_at_call 95; refine (mask_calls n hn _).mono ?_; rintro e w' ⟨rfl, rfl⟩))
    go_ret
    exact ⟨by rw [HT.out]; rfl, rfl⟩

/-- The n bits of w from bit a on replaced by the low bits of v. -/
def putN (w v a n : Nat) : Nat := if a + n ≤ 64 then (w &&& (18446744073709551615 - ones n a)) ||| ((v &&& ones n 0) * 2 ^ a) else w

theorem comp_testBit (x i : Nat) (hx : x < 18446744073709551616) : (18446744073709551615 - x).testBit i = (decide (i < 64) && !x.testBit i) := by
  have := Nat.testBit_two_pow_sub_succ (n := 64) (x := x) hx i
  rw [show 2 ^ 64 - (x + 1) = 18446744073709551615 - x by omega] at this
  exact this

theorem putN_testBit (w v a n i : Nat) (hw : w < 18446744073709551616) (h : a + n ≤ 64) : (putN w v a n).testBit i = if a ≤ i ∧ i < a + n then v.testBit (i - a) else w.testBit i := by
  unfold putN
  rw [if_pos h, Nat.testBit_or, Nat.testBit_and, comp_testBit _ _ (ones_lt h), ones_testBit, Nat.testBit_mul_two_pow, Nat.testBit_and, ones_testBit]
  by_cases hi : i < 64
  · by_cases h1 : a ≤ i
    · by_cases h2 : i < a + n
      · simp [hi, h1, h2]; omega
      · simp [hi, h1, h2]; omega
    · have h2 : i < a := by omega
      simp [hi, h1]
  · have hb : w.testBit i = false := Nat.testBit_lt_two_pow (Nat.lt_of_lt_of_le hw (Nat.pow_le_pow_right (n := 2) (by omega) (show 64 ≤ i by omega)))
    have h2 : ¬ (i < a + n) := by omega
    simp [hb, h2]; omega

theorem putN_lt {w v : Nat} (hw : w < 18446744073709551616) (a n : Nat) : putN w v a n < 18446744073709551616 := by
  by_cases h : a + n ≤ 64
  · refine Nat.lt_pow_two_of_testBit (n := 64) _ (fun i hi => ?_)
    rw [putN_testBit _ _ _ _ _ hw h, if_neg (by omega)]
    exact Nat.testBit_lt_two_pow (Nat.lt_of_lt_of_le hw (Nat.pow_le_pow_right (n := 2) (by omega) hi))
  · unfold putN; rw [if_neg h]; exact hw

theorem put_form (w v a n : Nat) (hw : w < 18446744073709551616) (hv : v < 18446744073709551616) (h : a + n ≤ 64) :
    bits .or .u64 (bits .andNot .u64 (w : Int) (IntKind.u64.wrap (((maskN n : Nat) : Int) * 2 ^ a))) (IntKind.u64.wrap (bits .and .u64 (v : Int) ((maskN n : Nat) : Int) * 2 ^ a)) = ((putN w v a n : Nat) : Int) := by
  have hm : maskN n = ones n 0 := by unfold maskN; rw [Nat.min_eq_left (by omega)]
  have hp : (0 : Nat) < 2 ^ a := Nat.two_pow_pos a
  have e1 : ((maskN n : Nat) : Int) * 2 ^ a = ((ones n a : Nat) : Int) := by
    rw [hm, two_pow_int, ← Int.natCast_mul]; unfold ones; simp
  have hle : v &&& ones n 0 ≤ ones n 0 := Nat.and_le_right
  have hlt : (v &&& ones n 0) * 2 ^ a < 18446744073709551616 := by
    refine Nat.lt_of_le_of_lt (Nat.mul_le_mul_right _ hle) ?_
    have := ones_lt h
    unfold ones at this ⊢
    simpa using this
  have e2 : bits .and .u64 (v : Int) ((maskN n : Nat) : Int) * 2 ^ a = (((v &&& ones n 0) * 2 ^ a : Nat) : Int) := by
    rw [u64_and_nat v _ hv (maskN_lt n), hm, two_pow_int, ← Int.natCast_mul]
  rw [e1, e2, wrap_nat, wrap_nat, Nat.mod_eq_of_lt (ones_lt h), Nat.mod_eq_of_lt hlt, u64_andNot_nat w _ hw (ones_lt h), u64_or_nat _ _ (Nat.lt_of_le_of_lt Nat.and_le_left hw) hlt]
  unfold putN
  rw [if_pos h]

theorem put_calls (w v a n : Nat) (hw : w < 18446744073709551616) (hv : v < 18446744073709551616) (ha : a ≤ 255) (hn : n ≤ 255) (W : World) :
    Calls Faag.prog 87 #[.int .u64 w, .int .u64 v, .int .u8 a, .int .u8 n] W fun e W' => e = .returned (.int .u64 (putN w v a n : Nat)) ∧ W' = W := by
  by_cases h : a + n ≤ 64
  · have hd : decide (a + n ≤ 64) = true := decide_eq_true h
    have ht := put_form w v a n hw hv h
    go_enter Faag.func87, Faag.ntmps87
    go_wp2_with (first | (go_at_call 94; refine (fits_calls a n ha hn _).mono ?_; rintro e w' ⟨rfl, rfl⟩) | (go_at_call 95; refine (mask_calls n hn _).mono ?_; rintro e w' ⟨rfl, rfl⟩))
    go_ret
    exact ⟨rfl, rfl⟩
  · have hd : decide (a + n ≤ 64) = false := decide_eq_false h
    have ht : putN w v a n = w := if_neg h
    have HT := hide ht
    clear ht
    go_enter Faag.func87, Faag.ntmps87
    go_wp2_with (first | (go_at_call 94; refine (fits_calls a n ha hn _).mono ?_; rintro e w' ⟨rfl, rfl⟩) | (go_at_call 95; refine (mask_calls n hn _).mono ?_; rintro e w' ⟨rfl, rfl⟩))
    go_ret
    exact ⟨by rw [HT.out]; rfl, rfl⟩

/-- The low n bits of v as a two's complement number. -/
def signI (v n : Nat) : Int := if n = 0 then 0 else if 64 ≤ n then wrap64 v else if 2 ^ (n - 1) ≤ v % 2 ^ n then ((v % 2 ^ n : Nat) : Int) - ((2 ^ n : Nat) : Int) else ((v % 2 ^ n : Nat) : Int)

theorem one_testBit (m : Nat) : (1 : Nat).testBit m = decide (0 = m) := by
  have := Nat.testBit_two_pow (n := 0) (m := m)
  simpa using this

theorem xor_top (x k : Nat) (hx : x < 2 ^ (k + 1)) : x ^^^ 2 ^ k = if 2 ^ k ≤ x then x - 2 ^ k else x + 2 ^ k := by
  have hp : 2 ^ (k + 1) = 2 ^ k + 2 ^ k := by rw [Nat.pow_succ]; omega
  split
  · rename_i h
    -- x = 2^k + r
    obtain ⟨r, rfl⟩ : ∃ r, x = 2 ^ k * 1 + r := ⟨x - 2 ^ k, by omega⟩
    have hr : r < 2 ^ k := by omega
    apply Nat.eq_of_testBit_eq
    intro i
    rw [Nat.testBit_xor, Nat.testBit_two_pow_mul_add _ hr, Nat.testBit_two_pow, show 2 ^ k * 1 + r - 2 ^ k = r by omega]
    by_cases hi : i < k
    · rw [if_pos hi, decide_eq_false (show ¬ k = i by omega), Bool.xor_false]
    · have : r.testBit i = false := Nat.testBit_lt_two_pow (Nat.lt_of_lt_of_le hr (Nat.pow_le_pow_right (by omega) (by omega)))
      rw [this, if_neg hi, one_testBit]
      by_cases h2 : k = i
      · subst h2; simp
      · rw [decide_eq_false h2, decide_eq_false (show ¬ 0 = i - k by omega)]; rfl
  · rename_i h
    have hr : x < 2 ^ k := by omega
    rw [show x + 2 ^ k = 2 ^ k * 1 + x by omega]
    apply Nat.eq_of_testBit_eq
    intro i
    rw [Nat.testBit_xor, Nat.testBit_two_pow_mul_add _ hr, Nat.testBit_two_pow]
    by_cases hi : i < k
    · rw [if_pos hi, decide_eq_false (show ¬ k = i by omega), Bool.xor_false]
    · have : x.testBit i = false := Nat.testBit_lt_two_pow (Nat.lt_of_lt_of_le hr (Nat.pow_le_pow_right (by omega) (by omega)))
      rw [this, if_neg hi, one_testBit]
      by_cases h2 : k = i
      · subst h2; simp
      · rw [decide_eq_false h2, decide_eq_false (show ¬ 0 = i - k by omega)]; rfl

theorem sign_form (v n : Nat) (hv : v < 18446744073709551616) (h0 : ¬ n = 0) (h : ¬ 64 ≤ n) :
    wrap64 (IntKind.u64.wrap (bits .xor .u64 (bits .and .u64 (v : Int) ((maskN n : Nat) : Int)) (IntKind.u64.wrap (2 ^ (n - 1))) - IntKind.u64.wrap (2 ^ (n - 1)))) = signI v n := by
  obtain ⟨k, rfl⟩ : ∃ k, n = k + 1 := ⟨n - 1, by omega⟩
  have hk : (2 : Nat) ^ k ≤ 2 ^ 62 := Nat.pow_le_pow_right (by omega) (by omega)
  have hp : (2 : Nat) ^ (k + 1) = 2 ^ k + 2 ^ k := by rw [Nat.pow_succ]; omega
  have hp0 : (0 : Nat) < 2 ^ k := Nat.two_pow_pos k
  have hx : v % 2 ^ (k + 1) < 2 ^ (k + 1) := Nat.mod_lt _ (by omega)
  rw [show k + 1 - 1 = k by omega, two_pow_int, wrap_nat, Nat.mod_eq_of_lt (by omega), u64_and_nat v _ hv (maskN_lt _), maskN_eq (by omega), Nat.and_two_pow_sub_one_eq_mod,
    u64_xor_nat _ _ (by omega) (by omega), xor_top _ _ hx]
  unfold signI
  rw [if_neg h0, if_neg h, show k + 1 - 1 = k by omega, IntKind.wrap_u64]
  generalize v % 2 ^ (k + 1) = x at *
  generalize 2 ^ k = q at *
  rw [hp]
  unfold wrap64
  split
  · omega
  · omega

theorem sign_calls (v n : Nat) (hv : v < 18446744073709551616) (hn : n ≤ 255) (W : World) :
    Calls Faag.prog 101 #[.int .u64 v, .int .u8 n] W fun e W' => e = .returned (.int .i64 (signI v n)) ∧ W' = W := by
  by_cases h0 : n = 0
  · subst h0
    go_enter Faag.func101, Faag.ntmps101
    go_wp2
    go_ret
    exact ⟨rfl, rfl⟩
  · have hn0 : ((n : Int) == 0) = false := by simp; omega
    by_cases h1 : 64 ≤ n
    · have hs : signI v n = wrap64 v := by unfold signI; rw [if_neg h0, if_pos h1]
      rw [hs]
      clear hs
      go_enter Faag.func101, Faag.ntmps101
      go_wp2
      go_ret
      exact ⟨rfl, rfl⟩
    · have hs := sign_form v n hv h0 h1
      go_enter Faag.func101, Faag.ntmps101
      go_wp2_with (first | (go_at_call 95; refine (mask_calls n hn _).mono ?_; rintro e w' ⟨rfl, rfl⟩))
      go_ret
      exact ⟨congrArg (fun z => Ending.returned (Value.int .i64 z)) hs, rfl⟩

theorem bytes_calls (v : Nat) (hv : v < 18446744073709551616) (W : World) :
    Calls Faag.prog 76 #[.int .u64 v] W fun e W' =>
      e = .returned (.agg #[.int .u8 ((v : Int) % 256), .int .u8 ((v : Int) / 256 % 256), .int .u8 ((v : Int) / 65536 % 256), .int .u8 ((v : Int) / 16777216 % 256), .int .u8 ((v : Int) / 4294967296 % 256),
        .int .u8 ((v : Int) / 1099511627776 % 256), .int .u8 ((v : Int) / 281474976710656 % 256), .int .u8 ((v : Int) / 72057594037927936)]) ∧ Below W.heap.size W W' := by
  go_enter Faag.func76, Faag.ntmps76
  go_wp2
  exact bodyPost_ret (v := .agg #[.int .u8 ((v : Int) % 256), .int .u8 ((v : Int) / 256 % 256), .int .u8 ((v : Int) / 65536 % 256), .int .u8 ((v : Int) / 16777216 % 256), .int .u8 ((v : Int) / 4294967296 % 256),
        .int .u8 ((v : Int) / 1099511627776 % 256), .int .u8 ((v : Int) / 281474976710656 % 256), .int .u8 ((v : Int) / 72057594037927936)]) (by simp [results, Faag.results76, go_sem]) rfl ⟨rfl, (Below.refl _ _).alloc (Nat.le_refl _) _⟩

theorem or_add (x b : Int) (k : Nat) (c : Int) (hc : c = ((2 ^ k : Nat) : Int)) (h0 : 0 ≤ x) (h1 : x < c) (hb : 0 ≤ b) (hy : b * c < 18446744073709551616) (hxl : x < 18446744073709551616) : bits .or .u64 x (b * c) = x + b * c := by
  obtain ⟨X, rfl⟩ := Int.eq_ofNat_of_zero_le h0
  obtain ⟨B, rfl⟩ := Int.eq_ofNat_of_zero_le hb
  subst hc
  rw [← Int.natCast_mul] at hy ⊢
  rw [u64_or_nat X (B * 2 ^ k) (by omega) (by omega), ← Int.natCast_add]
  congr 1
  have := Nat.two_pow_add_eq_or_of_lt (b := X) (i := k) (by omega) B
  rw [Nat.or_comm, Nat.mul_comm B, ← this]
  omega

theorem word_calls (b0 b1 b2 b3 b4 b5 b6 b7 : Int) (h0 : 0 ≤ b0 ∧ b0 < 256) (h1 : 0 ≤ b1 ∧ b1 < 256) (h2 : 0 ≤ b2 ∧ b2 < 256) (h3 : 0 ≤ b3 ∧ b3 < 256) (h4 : 0 ≤ b4 ∧ b4 < 256) (h5 : 0 ≤ b5 ∧ b5 < 256) (h6 : 0 ≤ b6 ∧ b6 < 256) (h7 : 0 ≤ b7 ∧ b7 < 256) (W : World) :
    Calls Faag.prog 79 #[.agg #[.int .u8 b0, .int .u8 b1, .int .u8 b2, .int .u8 b3, .int .u8 b4, .int .u8 b5, .int .u8 b6, .int .u8 b7]] W fun e W' =>
      e = .returned (.int .u64 (b0 + b1 * 256 + b2 * 65536 + b3 * 16777216 + b4 * 4294967296 + b5 * 1099511627776 + b6 * 281474976710656 + b7 * 72057594037927936)) ∧ Below W.heap.size W W' := by
  have o1 := or_add b0 b1 8 256 rfl (by omega) (by omega) (by omega) (by omega) (by omega)
  have o2 := or_add (b0 + b1 * 256) b2 16 65536 rfl (by omega) (by omega) (by omega) (by omega) (by omega)
  have o3 := or_add (b0 + b1 * 256 + b2 * 65536) b3 24 16777216 rfl (by omega) (by omega) (by omega) (by omega) (by omega)
  have o4 := or_add (b0 + b1 * 256 + b2 * 65536 + b3 * 16777216) b4 32 4294967296 rfl (by omega) (by omega) (by omega) (by omega) (by omega)
  have o5 := or_add (b0 + b1 * 256 + b2 * 65536 + b3 * 16777216 + b4 * 4294967296) b5 40 1099511627776 rfl (by omega) (by omega) (by omega) (by omega) (by omega)
  have o6 := or_add (b0 + b1 * 256 + b2 * 65536 + b3 * 16777216 + b4 * 4294967296 + b5 * 1099511627776) b6 48 281474976710656 rfl (by omega) (by omega) (by omega) (by omega) (by omega)
  have o7 := or_add (b0 + b1 * 256 + b2 * 65536 + b3 * 16777216 + b4 * 4294967296 + b5 * 1099511627776 + b6 * 281474976710656) b7 56 72057594037927936 rfl (by omega) (by omega) (by omega) (by omega) (by omega)
  obtain ⟨_, _⟩ := h0; obtain ⟨_, _⟩ := h1; obtain ⟨_, _⟩ := h2; obtain ⟨_, _⟩ := h3; obtain ⟨_, _⟩ := h4; obtain ⟨_, _⟩ := h5; obtain ⟨_, _⟩ := h6; obtain ⟨_, _⟩ := h7
  go_enter Faag.func79, Faag.ntmps79
  go_wp2
  go_ret
  exact ⟨rfl, (Below.refl _ _).alloc (Nat.le_refl _) _⟩
end Go.Proofs.YgcfaaGreat

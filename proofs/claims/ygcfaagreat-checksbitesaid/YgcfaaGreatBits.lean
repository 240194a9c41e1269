/-! Plain arithmetic of words and bit sets: no Go in sight. -/
namespace Go.Proofs.YgcfaaGreat.Bits

/-- r ones from bit a on. -/
def ones (r a : Nat) : Nat := (2 ^ r - 1) * 2 ^ a

theorem ones_testBit (r a i : Nat) : (ones r a).testBit i = decide (a ≤ i ∧ i < a + r) := by
  unfold ones
  rw [Nat.testBit_mul_two_pow]
  by_cases h : a ≤ i
  · simp only [h, decide_true, Bool.true_and, true_and]
    rw [Nat.testBit_two_pow_sub_one]
    by_cases h2 : i < a + r
    · simp [h2]; omega
    · simp [h2]; omega
  · simp [h]

theorem ones_lt {r a : Nat} (h : a + r ≤ 64) : ones r a < 18446744073709551616 := by
  unfold ones
  have h1 : 2 ^ r * 2 ^ a ≤ 2 ^ 64 := by rw [← Nat.pow_add]; exact Nat.pow_le_pow_right (by omega) (by omega)
  have h2 : 0 < 2 ^ r := Nat.two_pow_pos r
  have h3 : 0 < 2 ^ a := Nat.two_pow_pos a
  have h4 : (2 ^ r - 1) * 2 ^ a < 2 ^ r * 2 ^ a := Nat.mul_lt_mul_of_pos_right (by omega) h3
  omega

/-- All ones, shifted down and up again. -/
theorem ones_div {r : Nat} (h : r ≤ 64) : 18446744073709551615 / 2 ^ (64 - r) = 2 ^ r - 1 := by
  have h1 : 2 ^ r * 2 ^ (64 - r) = 18446744073709551616 := by rw [← Nat.pow_add]; rw [show r + (64 - r) = 64 by omega]
  have h2 : 0 < 2 ^ (64 - r) := Nat.two_pow_pos _
  have h3 : 0 < 2 ^ r := Nat.two_pow_pos _
  rw [show 18446744073709551615 = (2 ^ r - 1) * 2 ^ (64 - r) + (2 ^ (64 - r) - 1) by
    rw [Nat.sub_mul, h1]
    have : 2 ^ (64 - r) ≤ 2 ^ r * 2 ^ (64 - r) := Nat.le_mul_of_pos_left _ h3
    omega]
  rw [Nat.mul_comm, Nat.mul_add_div h2, Nat.div_eq_of_lt (by omega)]
  omega

/-- Bit i of a row of words. -/
def tb (s : List Nat) (i : Nat) : Bool := (s.getD (i / 64) 0).testBit (i % 64)

def orAt (s : List Nat) (j m : Nat) : List Nat := s.set j (s.getD j 0 ||| m)

theorem orAt_length (s : List Nat) (j m : Nat) : (orAt s j m).length = s.length := by simp [orAt]

theorem getD_set (s : List Nat) (j k x : Nat) (hj : j < s.length) : (s.set j x).getD k 0 = if k = j then x else s.getD k 0 := by
  by_cases h : k = j
  · subst h; simp [hj]
  · simp only [h, if_false, List.getD_eq_getElem?_getD]
    rw [List.getElem?_set_ne (Ne.symm h)]

theorem tb_orAt (s : List Nat) (j m i : Nat) (hj : j < s.length) : tb (orAt s j m) i = (tb s i || (decide (i / 64 = j) && m.testBit (i % 64))) := by
  unfold tb orAt
  rw [getD_set _ _ _ _ hj]
  by_cases h : i / 64 = j
  · simp [h, Nat.testBit_or]
  · simp [h]

/-- The mask of a run, in words. -/
theorem tb_orAt_run (s : List Nat) (x r i : Nat) (hj : x / 64 < s.length) (hr : x % 64 + r ≤ 64) :
    tb (orAt s (x / 64) (ones r (x % 64))) i = (tb s i || decide (x ≤ i ∧ i < x + r)) := by
  rw [tb_orAt _ _ _ _ hj, ones_testBit]
  congr 1
  by_cases h : i / 64 = x / 64
  · simp only [h, decide_true, Bool.true_and, decide_eq_decide]; omega
  · simp only [h, decide_false, Bool.false_and]; symm; rw [decide_eq_false_iff_not]; omega

theorem and_zero_iff (v m : Nat) : v &&& m = 0 ↔ ∀ i, (v.testBit i && m.testBit i) = false := by
  constructor
  · intro h i; rw [← Nat.testBit_and, h]; simp
  · intro h; apply Nat.eq_of_testBit_eq; intro i; rw [Nat.testBit_and, h]; simp

theorem run_free (s : List Nat) (x r : Nat) (hr : x % 64 + r ≤ 64) :
    (s.getD (x / 64) 0 &&& ones r (x % 64) = 0) ↔ ∀ i, x ≤ i → i < x + r → tb s i = false := by
  rw [and_zero_iff]
  constructor
  · intro h i h1 h2
    have := h (i % 64)
    rw [ones_testBit] at this
    have e : i / 64 = x / 64 := by omega
    have d : decide (x % 64 ≤ i % 64 ∧ i % 64 < x % 64 + r) = true := by rw [decide_eq_true_iff]; omega
    rw [d, Bool.and_true] at this
    unfold tb; rw [e]; exact this
  · intro h i
    rw [ones_testBit]
    by_cases d : x % 64 ≤ i ∧ i < x % 64 + r
    · have := h (x / 64 * 64 + i) (by omega) (by omega)
      unfold tb at this
      rw [show (x / 64 * 64 + i) / 64 = x / 64 by omega, show (x / 64 * 64 + i) % 64 = i by omega] at this
      rw [this]; rfl
    · simp [d]

theorem or_lt {a b : Nat} (ha : a < 18446744073709551616) (hb : b < 18446744073709551616) : a ||| b < 18446744073709551616 :=
  Nat.or_lt_two_pow (n := 64) ha hb

theorem orAt_lt {s : List Nat} {j m : Nat} (hs : ∀ x ∈ s, x < 18446744073709551616) (hm : m < 18446744073709551616) : ∀ x ∈ orAt s j m, x < 18446744073709551616 := by
  intro x hx
  rcases List.mem_or_eq_of_mem_set hx with h | h
  · exact hs x h
  · subst h
    refine or_lt ?_ hm
    by_cases hj : j < s.length
    · simp only [List.getD_eq_getElem?_getD, List.getElem?_eq_getElem hj, Option.getD_some]; exact hs _ (List.getElem_mem hj)
    · simp [List.getElem?_eq_none (Nat.le_of_not_lt hj)]

/-- Two rows of four words that agree in each of 256 bits are one. -/
theorem ext4 {s t : List Nat} (hs : s.length = 4) (ht : t.length = 4) (bs : ∀ x ∈ s, x < 18446744073709551616) (bt : ∀ x ∈ t, x < 18446744073709551616)
    (h : ∀ i, i < 256 → tb s i = tb t i) : s = t := by
  apply List.ext_getElem (by omega)
  intro n h1 h2
  apply Nat.eq_of_testBit_eq
  intro i
  by_cases hi : i < 64
  · have := h (n * 64 + i) (by omega)
    unfold tb at this
    rw [show (n * 64 + i) / 64 = n by omega, show (n * 64 + i) % 64 = i by omega] at this
    simpa [h1, h2] using this
  · have e1 : s[n].testBit i = false := Nat.testBit_lt_two_pow (Nat.lt_of_lt_of_le (bs _ (List.getElem_mem h1)) (Nat.pow_le_pow_right (n := 2) (by omega) (show 64 ≤ i by omega)))
    have e2 : t[n].testBit i = false := Nat.testBit_lt_two_pow (Nat.lt_of_lt_of_le (bt _ (List.getElem_mem h2)) (Nat.pow_le_pow_right (n := 2) (by omega) (show 64 ≤ i by omega)))
    rw [e1, e2]

theorem getD_lt {s : List Nat} (hs : ∀ x ∈ s, x < 18446744073709551616) (j : Nat) : s.getD j 0 < 18446744073709551616 := by
  by_cases hj : j < s.length
  · simp only [List.getD_eq_getElem?_getD, List.getElem?_eq_getElem hj, Option.getD_some]; exact hs _ (List.getElem_mem hj)
  · simp [List.getElem?_eq_none (Nat.le_of_not_lt hj)]

end Go.Proofs.YgcfaaGreat.Bits

import Derived.Test.YgcfaaProg
import Derived.Test.YgcfaaBase
import Derived.Test.YgcfaaBits
import Derived.Deep.Light
namespace Go.Proofs.Ygcfaa
open Go.RowKit Bits

/-- None of the n places from x on is in s. -/
def freeB (s : List Nat) (x n : Nat) : Bool := (List.range n).all fun j => !tb s (x + j)
theorem freeB_iff {s : List Nat} {x n : Nat} : freeB s x n = true ↔ ∀ i, x ≤ i → i < x + n → tb s i = false := by
  unfold freeB
  rw [List.all_eq_true]
  constructor
  · intro h i h1 h2
    have := h (i - x) (List.mem_range.2 (by omega))
    rw [show x + (i - x) = i by omega] at this
    simpa using this
  · intro h j hj
    have := h (x + j) (by omega) (by have := List.mem_range.1 hj; omega)
    simp [this]
theorem freeB_add (s : List Nat) (x n r : Nat) : freeB s x (n + r) = (freeB s x n && freeB s (x + n) r) := by
  rw [Bool.eq_iff_iff, Bool.and_eq_true, freeB_iff, freeB_iff, freeB_iff]
  constructor
  · intro h; exact ⟨fun i h1 h2 => h i h1 (by omega), fun i h1 h2 => h i (by omega) (by omega)⟩
  · intro ⟨h1, h2⟩ i h3 h4
    by_cases h : i < x + n
    · exact h1 i h3 h
    · exact h2 i (by omega) (by omega)

/-- s' is s with the k places from x on. -/
def Taken (s : List Nat) (x k : Nat) (s' : List Nat) : Prop :=
  s'.length = 4 ∧ (∀ y ∈ s', y < 18446744073709551616) ∧ ∀ i, i < 256 → tb s' i = (tb s i || decide (x ≤ i ∧ i < x + k))

theorem Taken.zero {s : List Nat} (x : Nat) (hs : s.length = 4) (hb : ∀ y ∈ s, y < 18446744073709551616) : Taken s x 0 s :=
  ⟨hs, hb, fun i _ => by have : decide (x ≤ i ∧ i < x + 0) = false := by { rw [decide_eq_false_iff_not]; omega }
                         rw [this, Bool.or_false]⟩
theorem Taken.more {s s' : List Nat} {x k r : Nat} (h : Taken s x k s') (hj : (x + k) / 64 < 4) (hr : (x + k) % 64 + r ≤ 64) : Taken s x (k + r) (orAt s' ((x + k) / 64) (ones r ((x + k) % 64))) := by
  obtain ⟨h1, h2, h3⟩ := h
  refine ⟨by rw [orAt_length]; exact h1, orAt_lt h2 (ones_lt hr), fun i hi => ?_⟩
  rw [tb_orAt_run _ _ _ _ (by omega) hr, h3 i hi, Bool.or_assoc]
  congr 1
  rw [Bool.eq_iff_iff, Bool.or_eq_true, decide_eq_true_iff, decide_eq_true_iff, decide_eq_true_iff]
  omega
theorem Taken.free {s s' : List Nat} {x k r : Nat} (h : Taken s x k s') (hx : x + k + r ≤ 256) (hr : (x + k) % 64 + r ≤ 64) :
    (s'.getD ((x + k) / 64) 0 &&& ones r ((x + k) % 64) = 0) ↔ freeB s (x + k) r = true := by
  rw [run_free _ _ _ hr, freeB_iff]
  have e : ∀ i, x + k ≤ i → i < x + k + r → tb s' i = tb s i := fun i h1 h2 => by
    rw [h.2.2 i (by omega)]
    have : decide (x ≤ i ∧ i < x + k) = false := by rw [decide_eq_false_iff_not]; omega
    rw [this, Bool.or_false]
  exact ⟨fun h i h1 h2 => (e i h1 h2) ▸ h i h1 h2, fun h i h1 h2 => (e i h1 h2).trans (h i h1 h2)⟩

/-- The mask as the walk writes it. -/
theorem mask_int (r a : Nat) (h : a + r ≤ 64) : IntKind.u64.wrap (18446744073709551615 / 2 ^ (64 - r) * 2 ^ a) = ((ones r a : Nat) : Int) := by
  have h1 := ones_div (r := r) (by omega)
  have h2 := ones_lt h
  have e : (18446744073709551615 / 2 ^ (64 - r) * 2 ^ a : Int) = ((18446744073709551615 / 2 ^ (64 - r) * 2 ^ a : Nat) : Int) := by rw [Int.natCast_mul, Int.natCast_ediv, Int.natCast_pow, Int.natCast_pow]; rfl
  rw [e, h1, IntKind.wrap_u64]
  show ((ones r a : Nat) : Int) % _ = _
  omega

theorem claim_step {b x k r v z nq : Nat} {s s' : List Nat} {w wr : World} (ht : Taken s x k s') (hd : (x + k) / 64 < 4) (hr : (x + k) % 64 + r ≤ 64) (hrow : RowAt wr b 0 (U s')) (hkeep : Keeps (· = b) w wr)
    (hv : v = s'.getD ((x + k) / 64) 0) (hz : z = ones r ((x + k) % 64)) :
    ∃ s'', Taken s x (k + r) s'' ∧ RowAt ((wr.drewN nq).setCell ⟨b, (x + k) / 64, none⟩ (.int .u64 ((v ||| z : Nat) : Int))) b 0 (U s'') ∧
      Keeps (· = b) w ((wr.drewN nq).setCell ⟨b, (x + k) / 64, none⟩ (.int .u64 ((v ||| z : Nat) : Int))) := by
  refine ⟨_, ht.more hd hr, ?_, (hkeep.drewN nq).setCell (fun _ => rfl) _⟩
  have := (hrow.drewN nq).set (i := (x + k) / 64) (by rw [U_length, ht.1]; exact hd) (.int .u64 ((v ||| z : Nat) : Int))
  rw [Nat.zero_add, U_set] at this
  rw [hv, hz] at *
  exact this

theorem claim_bool {x k r v z : Nat} {s s' : List Nat} {f0 fb : Bool} (ht : Taken s x k s') (hx : x + k + r ≤ 256) (hr : (x + k) % 64 + r ≤ 64)
    (hv : v = s'.getD ((x + k) / 64) 0) (hz : z = ones r ((x + k) % 64)) (hfb : (f0 && freeB s x k) = fb) : (f0 && freeB s x (k + r)) = (fb && decide (v &&& z = 0)) := by
  rw [freeB_add, ← Bool.and_assoc, hfb]
  congr 1
  have := ht.free hx hr
  rw [← hv, ← hz] at this
  rw [Bool.eq_iff_iff, decide_eq_true_iff, this]

set_option maxHeartbeats 1000000 in
theorem claim_calls (b x n : Nat) (hx : x ≤ 65535) (hn : n ≤ 65535) (s : List Nat) (hs : s.length = 4) (hb : ∀ y ∈ s, y < 18446744073709551616) (w : World) (hr : RowAt w b 0 (U s)) :
    Calls Faag.prog 23 #[.pointer (some ⟨b, 0, none⟩), .int .u16 x, .int .u16 n] w fun e w' =>
      ∃ s', Taken s x n s' ∧ e = .returned (.bool (decide (n = 0) || (decide (x + n ≤ 256) && freeB s x n))) ∧ RowAt w' b 0 (U s') ∧ Keeps (· = b) w w' := by
  by_cases hn0 : n = 0
  · subst hn0
    go_enter Faag.func23, Faag.ntmps23
    go_wp2
    go_ret
    exact ⟨s, .zero x hs hb, rfl, hr, .refl _ _⟩
  have hn' : ((n : Int) == 0) = false := by simp; omega
  -- N places are taken in the loop, and the answer begins as f0
  obtain ⟨N, f0, hN, hN2, hf0, hw⟩ : ∃ (N : Nat) (f0 : Bool), (x + N ≤ 256 ∨ N = 0) ∧ N ≤ n ∧ (f0 = decide (x + n ≤ 256)) ∧ ((x + n ≤ 256 ∧ decide ((x : Int) + n ≤ 256) = true ∧ f0 = true ∧ N = n) ∨
      (256 < x + n ∧ decide ((x : Int) + n ≤ 256) = false ∧ f0 = false ∧ x ≤ 256 ∧ N = 256 - x) ∨ (256 < x ∧ decide ((x : Int) + n ≤ 256) = false ∧ f0 = false ∧ N = 0)) := by
    by_cases h : x + n ≤ 256
    · have d : decide ((x : Int) + n ≤ 256) = true := by rw [decide_eq_true_iff]; omega
      exact ⟨n, true, by omega, by omega, by simp [h], .inl ⟨h, d, rfl, rfl⟩⟩
    · have d : decide ((x : Int) + n ≤ 256) = false := by rw [decide_eq_false_iff_not]; omega
      by_cases h2 : x ≤ 256
      · exact ⟨256 - x, false, by omega, by omega, by simp [h], .inr (.inl ⟨by omega, d, rfl, h2, rfl⟩)⟩
      · exact ⟨0, false, by omega, by omega, by simp [h], .inr (.inr ⟨by omega, d, rfl, rfl⟩)⟩
  -- what the loop leaves is what is asked
  have fin : ∀ s', Taken s x N s' → Taken s x n s' ∧ (f0 && freeB s x N) = (decide (n = 0) || (decide (x + n ≤ 256) && freeB s x n)) := by
    intro s' ⟨t1, t2, t3⟩
    refine ⟨⟨t1, t2, fun i hi => ?_⟩, ?_⟩
    · rw [t3 i hi]
      congr 1
      rw [decide_eq_decide]
      omega
    · rw [hf0, decide_eq_false hn0, Bool.false_or]
      by_cases h : x + n ≤ 256
      · have : N = n := by omega
        rw [this]
      · rw [decide_eq_false h, Bool.false_and, Bool.false_and]
  have Fin := hide fin
  clear fin hf0
  have hR := hide hr
  clear hr
  rcases hw with ⟨hc, d1, hf1, hNe⟩ | ⟨hc, d1, hf1, hc2, hNe⟩ | ⟨hc, d1, hf1, hNe⟩
  rotate_left 2
  · -- nothing is left to take
    subst hNe
    go_enter Faag.func23, Faag.ntmps23
    go_wp2
    go_loopw [1, 2, 7] (fun p q f wr => p = .int .u16 (x : Nat) ∧ q = .int .u16 0 ∧ f = .bool false ∧ wr = w) (fun _ q _ _ => (intOf q).toNat)
    case atStart => exact ⟨rfl, rfl, rfl, rfl⟩
    case round =>
      obtain ⟨rfl, rfl, rfl, rfl⟩ := hrel
      go_wp2
      go_ret
      obtain ⟨f1, f2⟩ := Fin.out s (.zero x hs hb)
      refine ⟨s, f1, ?_, hR.out, .refl _ _⟩
      rw [← f2, hf1]
      rfl
  all_goals
    have HN := hide hNe
    have HF := hide hf1
    have hN3 : N ≤ 256 := by omega
    clear hNe hf1
    go_enter Faag.func23, Faag.ntmps23
    go_wp2
    go_loopw [1, 2, 7] (fun p q f wr => ∃ k m : Nat, k + m = N ∧ p = .int .u16 (x + k : Nat) ∧ q = .int .u16 m ∧ f = .bool (f0 && freeB s x k) ∧
        ∃ s', Taken s x k s' ∧ RowAt wr b 0 (U s') ∧ Keeps (· = b) w wr) (fun _ q _ _ => (intOf q).toNat)
    case atStart => exact ⟨0, N, by omega, rfl, by first | (rw [HN.out]; done) | (rw [HN.out]; go_num), by rw [HF.out]; rfl, s, .zero x hs hb, hR.out, .refl _ _⟩
    case round =>
      obtain ⟨k, m, hk, rfl, rfl, rfl, s', ht, hrow, hkeep⟩ := hrel
      have hk1 : k + m ≤ N := by omega
      have hk2 : N ≤ k + m := by omega
      have Hs := hide hrow
      clear hk hrow
      by_cases hlt : 0 < m
      · have hd : (x + k) / 64 < 4 := by omega
        have hdi : ((x : Int) + k) / 64 < 4 := by omega
        have hlen : (x + k) / 64 < s'.length := by rw [ht.1]; exact hd
        obtain ⟨v, hv⟩ : ∃ v, v = s'.getD ((x + k) / 64) 0 := ⟨_, rfl⟩
        have hcx := Hs.out.at_ (U_get hlen)
        have hfx := Hs.out.live ((x + k) / 64) (by rw [U_length]; exact hlen)
        rw [← hv, Nat.zero_add] at hcx
        rw [Nat.zero_add] at hfx
        have hq := u16_quo ((x : Int) + k) 64 (by omega) (by omega) (by omega)
        obtain ⟨fb, hfb⟩ : ∃ fb, (f0 && freeB s x k) = fb := ⟨_, rfl⟩
        rw [hfb]
        have hvl : v < 18446744073709551616 := by rw [hv]; exact getD_lt ht.2.1 _
        -- the run, and its mask
        obtain ⟨r, z, hr1, hr2, hr3, hm, hz⟩ : ∃ r z : Nat, r ≤ m ∧ 0 < r ∧ (x + k) % 64 + r ≤ 64 ∧
            ((m < 64 - (x + k) % 64 ∧ r = m ∧ IntKind.u64.wrap (18446744073709551615 / 2 ^ (64 - m) * 2 ^ ((x + k) % 64)) = (z : Int)) ∨
             (64 - (x + k) % 64 ≤ m ∧ r = 64 - (x + k) % 64 ∧ IntKind.u64.wrap (18446744073709551615 / 2 ^ (64 - (64 - (x + k) % 64)) * 2 ^ ((x + k) % 64)) = (z : Int))) ∧ z = ones r ((x + k) % 64) := by
          by_cases hr : m < 64 - (x + k) % 64
          · exact ⟨m, _, by omega, by omega, by omega, .inl ⟨hr, rfl, mask_int _ _ (by omega)⟩, rfl⟩
          · exact ⟨64 - (x + k) % 64, _, by omega, by omega, by omega, .inr ⟨by omega, rfl, mask_int _ _ (by omega)⟩, rfl⟩
        have hzl : z < 18446744073709551616 := by rw [hz]; exact ones_lt (by omega)
        have hor := u64_or_nat v z hvl hzl
        have hand := u64_and_nat v z hvl hzl
        have CB := hide (claim_bool ht (r := r) (by omega) hr3 hv hz hfb)
        have CS := hide (fun nq => claim_step (nq := nq) ht hd (r := r) hr3 Hs.out hkeep hv hz)
        clear hz hfb Hs hkeep hv ht
        rcases hm with ⟨hr, Hr, hm⟩ | ⟨hr, Hr, hm⟩
        all_goals
          have HR := hide Hr
          clear Hr
          by_cases hz0 : v &&& z = 0
        all_goals
          cases fb
        all_goals
          go_wp2
          refine wp_region_qd 9 (by kernel_rfl) (by kernel_rfl) ?_
          simp only [List.take_succ_cons, List.take_zero, List.drop_succ_cons, List.drop_zero]
          repeat (go_big_quiet_step (fail))
          refine wpQuiet_nil ?_
          rintro _ ⟨nq, rfl⟩
          go_wp2
          go_roundw
          case rel =>
            obtain ⟨s'', c1, c2, c3⟩ := CS.out nq
            have hRe := HR.out
            exact ⟨k + r, m - r, by omega, by rw [hRe]; go_num, by rw [hRe]; go_num, by rw [CB.out]; simp [hz0], s'', c1, c2, c3⟩
          case measure => simp [intOf]; omega
      · go_wp2
        go_ret
        obtain ⟨f1, f2⟩ := Fin.out s' (by rw [show N = k by omega]; exact ht)
        refine ⟨s', f1, ?_, Hs.out, hkeep⟩
        rw [← f2, show N = k by omega]
        rfl
end Go.Proofs.Ygcfaa

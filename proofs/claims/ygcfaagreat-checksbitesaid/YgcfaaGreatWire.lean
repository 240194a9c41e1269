import Derived.Test.YgcfaaGreatWireA
namespace Go.Proofs.YgcfaaGreat
open Go.RowKit Bits Bd
set_option linter.unusedVariables false
set_option maxRecDepth 100000
set_option linter.unusedSimpArgs false
attribute [local go_sem] World.cell?_ext World.frozen?_ext

theorem put_zero (v a n : Nat) (h : a + n ≤ 64) : putN 0 v a n = v % 2 ^ n * 2 ^ a := by
  unfold putN
  rw [if_pos h, Nat.zero_and, Nat.zero_or]
  have : ones n 0 = 2 ^ n - 1 := by unfold ones; omega
  rw [this, Nat.and_two_pow_sub_one_eq_mod]

theorem offset_calls (f t : Nat) (hf : f < 65536) (ht : t < 65536) (w : World) : Calls Faag.prog 99 #[.int .u16 f, .int .u16 t] w fun e w' => e = .returned (.int .u64 (offN f t : Nat)) ∧ w' = w := by
  obtain ⟨v, hv, hvl⟩ : ∃ v : Nat, IntKind.u64.wrap ((t : Int) - f - 1) = (v : Int) ∧ v < 18446744073709551616 ∧ v % 1073741824 = (t + 1073741824 - f - 1) % 1073741824 := by
    refine ⟨(t + 18446744073709551616 - f - 1) % 18446744073709551616, ?_, ?_, ?_⟩
    · rw [IntKind.wrap_u64]; omega
    · omega
    · omega
  have hr : putN 0 v 2 30 = offN f t := by
    rw [put_zero _ _ _ (by omega)]
    unfold offN
    have := hvl.2
    omega
  have Hr := hide hr
  have hvl1 := hvl.1
  clear hr hvl
  go_enter Faag.func99, Faag.ntmps99
  go_wp2_with fail
  refine (put_calls 0 v 2 30 (by omega) hvl1 (by omega) (by omega) _).mono ?_
  rintro e w' ⟨rfl, rfl⟩
  rw [Hr.out]
  go_wp2_with fail
  go_ret
  exact ⟨rfl, rfl⟩

set_option maxHeartbeats 2000000 in
theorem mkStruct_calls (f t d p : Nat) (hf : f < 65536) (ht : t < 65536) (hd : d < 256) (hp : p < 256) (w : World) :
    Calls Faag.prog 81 #[.int .u16 f, .int .u16 t, .int .u8 d, .int .u8 p] w fun e w' => e = .returned (.int .u64 (mkStruct f t d p : Nat)) ∧ w' = w := by
  by_cases hbad : 256 ≤ f ∨ 256 < t ∨ 8 < d ∨ 8 < p
  · have hz : mkStruct f t d p = 0 := if_pos hbad
    rw [hz]
    have HB := hide hbad
    clear hz hbad
    go_enter Faag.func81, Faag.ntmps81
    go_wp2_with fail
    all_goals
      have hbad := HB.out
      first | (exfalso; omega) | (go_ret; exact ⟨rfl, rfl⟩)
  · obtain ⟨u, hu⟩ : ∃ u, u = (if d = 0 ∧ p = 0 then f else t) := ⟨_, rfl⟩
    have hz : mkStruct f t d p = offN f u + d * 4294967296 + p * 281474976710656 := by unfold mkStruct; rw [if_neg hbad, hu]
    have hul : u < 65536 := by rw [hu]; split <;> omega
    have ho := offN_lt f u
    obtain ⟨o, ho'⟩ : ∃ o, o = offN f u := ⟨_, rfl⟩
    have hoc : Hid (∀ W, Calls Faag.prog 99 #[.int .u16 f, .int .u16 u] W fun e W' => e = .returned (.int .u64 (o : Nat)) ∧ W' = W) := hide (by rw [ho']; exact offset_calls f u hf hul)
    rw [← ho'] at hz ho
    have o1 := or_add (o : Int) d 32 4294967296 rfl (by omega) (by omega) (by omega) (by omega) (by omega)
    have o2 := or_add ((o : Int) + d * 4294967296) p 48 281474976710656 rfl (by omega) (by omega) (by omega) (by omega) (by omega)
    have e1 : ((o + d * 4294967296 + p * 281474976710656 : Nat) : Int) = (o : Int) + d * 4294967296 + p * 281474976710656 := by omega
    rw [hz, e1]
    have hb1 : f < 256 := by omega
    have hb2 : t ≤ 256 := by omega
    have hb3 : d ≤ 8 := by omega
    have hb4 : p ≤ 8 := by omega
    clear hz ho' hbad e1
    by_cases hc : d = 0
    · by_cases hc2 : p = 0
      · rw [if_pos ⟨hc, hc2⟩] at hu
        subst hu
        have g1 : ((d : Int) == 0) = true := by simp; omega
        have g2 : ((p : Int) == 0) = true := by simp; omega
        clear hc hc2
        go_enter Faag.func81, Faag.ntmps81
        go_wp2_with fail
        refine (hoc.out _).mono ?_
        rintro e w' ⟨rfl, rfl⟩
        go_wp2_with fail
        go_ret
        exact ⟨rfl, rfl⟩
      · rw [if_neg (by omega)] at hu
        subst hu
        have g1 : ((d : Int) == 0) = true := by simp; omega
        have hc3 : 0 < p := by omega
        clear hc hc2
        go_enter Faag.func81, Faag.ntmps81
        go_wp2_with fail
        refine (hoc.out _).mono ?_
        rintro e w' ⟨rfl, rfl⟩
        go_wp2_with fail
        go_ret
        exact ⟨rfl, rfl⟩
    · rw [if_neg (by omega)] at hu
      subst hu
      have hc3 : 0 < d := by omega
      go_enter Faag.func81, Faag.ntmps81
      go_wp2_with fail
      refine (hoc.out _).mono ?_
      rintro e w' ⟨rfl, rfl⟩
      go_wp2_with fail
      go_ret
      exact ⟨rfl, rfl⟩

set_option maxHeartbeats 2000000 in
theorem mkList_calls (f t c n : Nat) (hf : f < 65536) (ht : t < 65536) (hc : c < 256) (hn : n < 4294967296) (w : World) :
    Calls Faag.prog 85 #[.int .u16 f, .int .u16 t, .int .u8 c, .int .u32 n] w fun e w' => e = .returned (.int .u64 (mkList f t c n : Nat)) ∧ w' = w := by
  by_cases hbad : (256 ≤ f ∨ 256 < t ∨ c < 2 ∨ 7 < c) ∨ (256 < n ∨ (¬ c = 7 ∧ 128 < n))
  · have hz : mkList f t c n = 0 := by unfold mkList; split; rfl; rw [if_pos (by omega)]
    rw [hz]
    clear hz
    have hcs : 256 ≤ f ∨ (f < 256 ∧ 256 < t) ∨ (f < 256 ∧ t ≤ 256 ∧ c < 2) ∨ (f < 256 ∧ t ≤ 256 ∧ 2 ≤ c ∧ 7 < c) ∨ (f < 256 ∧ t ≤ 256 ∧ 2 ≤ c ∧ c ≤ 7 ∧ 256 < n) ∨
        (f < 256 ∧ t ≤ 256 ∧ 2 ≤ c ∧ c ≤ 6 ∧ n ≤ 256 ∧ 128 < n) := by omega
    clear hbad
    rcases hcs with k1 | ⟨k1, k2⟩ | ⟨k1, k2, k3⟩ | ⟨k1, k2, k3, k4⟩ | ⟨k1, k2, k3, k4, k5⟩ | ⟨k1, k2, k3, k4, k5, k6⟩
    rotate_left 5
    · have k7 : ((c : Int) != 7) = true := by simp; omega
      go_enter Faag.func85, Faag.ntmps85
      go_wp2_with fail
      go_ret
      exact ⟨rfl, rfl⟩
    all_goals
      go_enter Faag.func85, Faag.ntmps85
      go_wp2_with fail
      go_ret
      exact ⟨rfl, rfl⟩
  · have hz : mkList f t c n = 1 + offN f t + c * 4294967296 + n * 34359738368 := by unfold mkList; rw [if_neg (by omega), if_neg (by omega)]
    have ho := offN_lt f t
    obtain ⟨o, ho', ho4⟩ : ∃ o, offN f t = o * 4 ∧ o < 1073741824 := ⟨_, rfl, by omega⟩
    have hoc : Hid (∀ W, Calls Faag.prog 99 #[.int .u16 f, .int .u16 t] W fun e W' => e = .returned (.int .u64 ((o : Int) * 4)) ∧ W' = W) := hide (by
      have e : ((o : Int) * 4) = ((offN f t : Nat) : Int) := by omega
      rw [e]; exact offset_calls f t hf ht)
    rw [ho'] at hz
    have o0 := or_add (1 : Int) o 2 4 rfl (by omega) (by omega) (by omega) (by omega) (by omega)
    have o1 := or_add ((1 : Int) + o * 4) c 32 4294967296 rfl (by omega) (by omega) (by omega) (by omega) (by omega)
    have o2 := or_add ((1 : Int) + o * 4 + c * 4294967296) n 35 34359738368 rfl (by omega) (by omega) (by omega) (by omega) (by omega)
    have e1 : ((1 + o * 4 + c * 4294967296 + n * 34359738368 : Nat) : Int) = (1 : Int) + o * 4 + c * 4294967296 + n * 34359738368 := by omega
    rw [hz, e1]
    have hb1 : f < 256 := by omega
    have hb2 : t ≤ 256 := by omega
    have hb3 : 2 ≤ c := by omega
    have hb4 : c ≤ 7 := by omega
    have hb5 : n ≤ 256 := by omega
    clear hz ho' e1 ho
    by_cases h7 : c = 7
    · have hb6 : ((c : Int) != 7) = false := by simp; omega
      clear hbad h7
      go_enter Faag.func85, Faag.ntmps85
      go_wp2_with fail
      refine (hoc.out _).mono ?_
      rintro e w' ⟨rfl, rfl⟩
      go_wp2_with fail
      go_ret
      exact ⟨rfl, rfl⟩
    · have hb6 : n ≤ 128 := by omega
      have hb7 : c ≤ 6 := by omega
      clear hbad h7
      go_enter Faag.func85, Faag.ntmps85
      go_wp2_with fail
      refine (hoc.out _).mono ?_
      rintro e w' ⟨rfl, rfl⟩
      go_wp2_with fail
      go_ret
      exact ⟨rfl, rfl⟩

set_option maxHeartbeats 2000000 in
theorem mkTag_calls (c d p : Nat) (hc : c < 65536) (hd : d < 256) (hp : p < 256) (w : World) :
    Calls Faag.prog 64 #[.int .u16 c, .int .u8 d, .int .u8 p] w fun e w' => e = .returned (.int .u64 (mkTag c d p : Nat)) ∧ w' = w := by
  by_cases hbad : 128 < c ∨ 8 < d ∨ 8 < p
  · have hz : mkTag c d p = 0 := if_pos hbad
    rw [hz]
    have HB := hide hbad
    clear hz hbad
    go_enter Faag.func64, Faag.ntmps64
    go_wp2_with fail
    all_goals
      have hbad := HB.out
      first | (exfalso; omega) | (go_ret; exact ⟨rfl, rfl⟩)
  · have hz : mkTag c d p = c * 4 + d * 4294967296 + p * 281474976710656 := if_neg hbad
    have o1 := or_add ((c : Int) * 4) d 32 4294967296 rfl (by omega) (by omega) (by omega) (by omega) (by omega)
    have o2 := or_add ((c : Int) * 4 + d * 4294967296) p 48 281474976710656 rfl (by omega) (by omega) (by omega) (by omega) (by omega)
    have e1 : ((c * 4 + d * 4294967296 + p * 281474976710656 : Nat) : Int) = (c : Int) * 4 + d * 4294967296 + p * 281474976710656 := by omega
    rw [hz, e1]
    have hb1 : c ≤ 128 := by omega
    have hb3 : d ≤ 8 := by omega
    have hb4 : p ≤ 8 := by omega
    clear hz hbad e1
    go_enter Faag.func64, Faag.ntmps64
    go_wp2_with fail
    go_ret
    exact ⟨rfl, rfl⟩

set_option maxHeartbeats 4000000 in
theorem extent_calls (p : Ptr) (hp : p.Ok) (w : World) : Calls Faag.prog 63 #[.agg (ptrC p).toArray] w fun e w' => e = .returned (.tuple #[.int .u16 (first p : Nat), .int .u16 (words p : Nat)]) ∧ Below w.heap.size w w' := by
  have hwc := hide (words_calls p hp)
  obtain ⟨n, hn⟩ : ∃ n, n = words p := ⟨_, rfl⟩
  have hf := hide (show first p = first p from rfl)
  obtain ⟨kind, at_, data, ptrs, code, count⟩ := p
  obtain ⟨h1, h2, h3, h4, h5, h6⟩ := hp
  dsimp only at h1 h2 h3 h4 h5 h6
  unfold ptrC at hwc ⊢
  dsimp only at hwc ⊢
  rw [← hn] at hwc ⊢
  clear hn hf
  by_cases hc : kind = 2 ∧ code = 7
  · obtain ⟨rfl, rfl⟩ := hc
    have hz : first ⟨2, at_, data, ptrs, 7, count⟩ = (at_ + 65535) % 65536 := if_pos ⟨rfl, rfl⟩
    have e1 : IntKind.u16.wrap ((at_ : Int) - 1) = (((at_ + 65535) % 65536 : Nat) : Int) := by rw [IntKind.wrap_u16]; omega
    rw [hz]
    obtain ⟨q, hq⟩ : ∃ q, q = (at_ + 65535) % 65536 := ⟨_, rfl⟩
    rw [← hq] at e1 ⊢
    clear hz hq
    have E1 := hide e1
    go_enter Faag.func63, Faag.ntmps63
    go_wp2_with fail
    refine wp_region_qx 5 (by kernel_rfl) (by kernel_rfl) ?_
    simp only [List.take_succ_cons, List.take_zero, List.drop_succ_cons, List.drop_zero]
    repeat (go_big_quiet_step ((go_at_call 54; exact Calls.ext_of (hwc.out _))))
    refine wpQuiet_nil ?_
    rintro _ ⟨x, rfl⟩
    go_wp2_with fail
    go_ret2
    exact ⟨by first | rfl | (rw [← E1.out]; rfl), ((Below.refl _ _).alloc (Nat.le_refl _) _).step (World.below_ext _ _)⟩
  · have hz : first ⟨kind, at_, data, ptrs, code, count⟩ = at_ := if_neg hc
    rw [hz]
    clear hz
    have hcs : (¬ kind = 2) ∨ (kind = 2 ∧ ¬ code = 7) := by omega
    rcases hcs with hk | ⟨rfl, hk⟩
    · have hk' : ((kind : Int) == 2) = false := by simp; omega
      go_enter Faag.func63, Faag.ntmps63
      go_wp2_with fail
      refine wp_region_qx 4 (by kernel_rfl) (by kernel_rfl) ?_
      simp only [List.take_succ_cons, List.take_zero, List.drop_succ_cons, List.drop_zero]
      repeat (go_big_quiet_step ((go_at_call 54; exact Calls.ext_of (hwc.out _))))
      refine wpQuiet_nil ?_
      rintro _ ⟨x, rfl⟩
      go_wp2_with fail
      go_ret2
      exact ⟨rfl, ((Below.refl _ _).alloc (Nat.le_refl _) _).step (World.below_ext _ _)⟩
    · have hk' : ((code : Int) == 7) = false := by simp; omega
      go_enter Faag.func63, Faag.ntmps63
      go_wp2_with fail
      refine wp_region_qx 4 (by kernel_rfl) (by kernel_rfl) ?_
      simp only [List.take_succ_cons, List.take_zero, List.drop_succ_cons, List.drop_zero]
      repeat (go_big_quiet_step ((go_at_call 54; exact Calls.ext_of (hwc.out _))))
      refine wpQuiet_nil ?_
      rintro _ ⟨x, rfl⟩
      go_wp2_with fail
      go_ret2
      exact ⟨rfl, ((Below.refl _ _).alloc (Nat.le_refl _) _).step (World.below_ext _ _)⟩

/-- It hands back whether p. -/
def RetB (e : Ending) (p : Prop) : Prop := ∃ r : Bool, e = .returned (.bool r) ∧ (r = true ↔ p)
theorem RetB.of {p : Prop} {r : Bool} (h : r = true ↔ p) : RetB (.returned (.bool r)) p := ⟨r, rfl, h⟩

set_option maxHeartbeats 4000000 in
theorem inside_calls (a : Option Addr) (n c : Nat) (hn : n ≤ 140737488355328) (p : Ptr) (hp : p.Ok) (w : World) : Calls Faag.prog 30 #[.slice a n c, .agg (ptrC p).toArray] w fun e w' => RetB e (insideP n p) ∧ Below w.heap.size w w' := by
  have hwc := hide (words_calls p hp)
  have hwl := words_le p
  obtain ⟨q, hq⟩ : ∃ q, q = words p := ⟨_, rfl⟩
  obtain ⟨R, hR⟩ : ∃ R, R = insideP n p := ⟨_, rfl⟩
  rw [← hR]
  unfold insideP at hR
  rw [← hq] at hR
  have HR := hide hR
  clear hR
  obtain ⟨kind, at_, data, ptrs, code, count⟩ := p
  obtain ⟨h1, h2, h3, h4, h5, h6⟩ := hp
  dsimp only at h1 h2 h3 h4 h5 h6
  unfold ptrC at hwc ⊢
  dsimp only at hwc HR ⊢
  rw [← hq] at hwc hwl
  clear hq
  go_enter Faag.func30, Faag.ntmps30
  go_wp2_with fail
  refine (hwc.out _).mono ?_
  rintro e w1 ⟨rfl, hb1⟩
  obtain ⟨x, rfl⟩ := World.ext_of_below hb1
  clear hb1 hwc
  go_wp2_with fail
  all_goals
    go_ret
    refine ⟨?_, ((Below.refl _ _).alloc (Nat.le_refl _) _).step (World.below_ext _ _)⟩
    refine RetB.of ?_
    rw [HR.out]
    clear HR
    simp only [Bool.or_eq_true, beq_iff_eq, decide_eq_true_eq, Bool.false_eq_true, eq_self, true_iff, false_iff, beq_eq_false_iff_ne, bne_eq_false_iff_eq, bne_iff_ne, ne_eq] at *
    omega
end Go.Proofs.YgcfaaGreat

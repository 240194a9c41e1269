import Derived.Test.YgcfaaGreatWkPush
namespace Go.Proofs.YgcfaaGreat
open Go.RowKit Bits Bd
set_option linter.unusedVariables false
set_option maxRecDepth 100000
set_option linter.unusedSimpArgs false
attribute [local go_sem] World.cell?_ext World.frozen?_ext

theorem put_ones {a r : Nat} (h : a + r ≤ 64) : putN 0 18446744073709551615 a r = ones r a := by
  refine Nat.eq_of_testBit_eq (fun i => ?_)
  rw [putN_testBit _ _ _ _ _ (by omega) h, ones_testBit]
  split
  · rename_i hi
    have := Nat.testBit_two_pow_sub_one 64 (i - a)
    rw [show 2 ^ 64 - 1 = 18446744073709551615 by decide] at this
    rw [this, decide_eq_true (by omega : i - a < 64), decide_eq_true hi]
  · rename_i hi
    rw [Nat.zero_testBit, decide_eq_false hi]

/-- s' is s with the k places from x on. -/
def TakenS (s : List Nat) (x k : Nat) (s' : List Nat) : Prop :=
  s'.length = 4 ∧ (∀ j, s'.getD j 0 < 18446744073709551616) ∧ ∀ i, tb s' i = (tb s i || decide (x ≤ i ∧ i < x + k))
theorem TakenS.zero {s : List Nat} (x : Nat) (hs : s.length = 4) (hb : ∀ j, s.getD j 0 < 18446744073709551616) : TakenS s x 0 s :=
  ⟨hs, hb, fun i => by have : decide (x ≤ i ∧ i < x + 0) = false := by { rw [decide_eq_false_iff_not]; omega }
                       rw [this, Bool.or_false]⟩
theorem TakenS.more {s s' : List Nat} {x k r : Nat} (h : TakenS s x k s') (hj : (x + k) / 64 < 4) (hr : (x + k) % 64 + r ≤ 64) : TakenS s x (k + r) (s'.set ((x + k) / 64) (s'.getD ((x + k) / 64) 0 ||| ones r ((x + k) % 64))) := by
  obtain ⟨h1, h2, h3⟩ := h
  refine ⟨by rw [List.length_set]; exact h1, fun j => ?_, fun i => ?_⟩
  · rw [getD_set _ _ _ _ (by omega)]
    split
    · exact or_lt (h2 _) (ones_lt hr)
    · exact h2 j
  · have := tb_orAt_run s' (x + k) r i (by omega) hr
    unfold orAt at this
    rw [this, h3 i, Bool.or_assoc]
    congr 1
    rw [Bool.eq_iff_iff, Bool.or_eq_true, decide_eq_true_iff, decide_eq_true_iff, decide_eq_true_iff]
    omega
theorem TakenS.free {s s' : List Nat} {x k r : Nat} (h : TakenS s x k s') (hr : (x + k) % 64 + r ≤ 64) (hf : ∀ i, x + k ≤ i → i < x + k + r → tb s i = false) :
    s'.getD ((x + k) / 64) 0 &&& ones r ((x + k) % 64) = 0 := by
  rw [run_free _ _ _ hr]
  intro i h1 h2
  rw [h.2.2 i, hf i h1 h2]
  have : decide (x ≤ i ∧ i < x + k) = false := by rw [decide_eq_false_iff_not]; omega
  rw [this]; rfl

set_option maxHeartbeats 4000000 in
theorem claimW_calls (p : Ptr) (hp : p.Ok) (x n : Nat) (hx : first p = x) (hn : words p = n) (h256 : x + n ≤ 256) {w : World} {b : Nat} {W : Wk} (hb : WkAt w b W) (hfree : ∀ i, x ≤ i → i < x + n → tb W.set i = false) :
    Calls Faag.prog 70 #[.pointer (some ⟨b, 0, none⟩), .agg (ptrC p).toArray] w fun e w' => e = .returned (.bool true) ∧ ∃ s', TakenS W.set x n s' ∧ WkAt w' b { W with set := s' } ∧ Keeps (fun k => k = b) w w' := by
  have HE := hide (extent_calls p hp)
  rw [hx, hn] at HE
  have HB0 := hide hb
  have HFr := hide hfree
  have hblt := hb.lt
  clear hb hfree hx hn
  obtain ⟨kind, at_, data, ptrs, code, count⟩ := p
  unfold ptrC at HE ⊢
  dsimp only at HE ⊢
  clear hp
  go_enter Faag.func70, Faag.ntmps70
  go_wp2_with fail
  refine (HE.out _).mono ?_
  rintro e w' ⟨rfl, hbl⟩
  have hbl' : Below w.heap.size w w' := ((Below.refl _ _).alloc (Nat.le_refl _) _).step hbl
  have HB1 := hide (show WkAt w' b W ∧ Keeps (fun k => k = b) w w' from ⟨HB0.out.below hbl', (Keeps.of_below hbl').mono (fun k hk h => absurd h (by omega))⟩)
  clear HE hbl hbl' HB0
  go_wp2_with fail
  go_loopw [5, 6] (fun p q wr => ∃ k m : Nat, k + m = n ∧ p = .int .u16 (x + k : Nat) ∧ q = .int .u16 m ∧
      ∃ s', Hid (TakenS W.set x k s' ∧ WkAt wr b { W with set := s' } ∧ Keeps (fun k => k = b) w wr)) (fun _ q _ => (intOf q).toNat)
  case atStart => exact ⟨0, n, by omega, rfl, rfl, W.set, hide ⟨.zero x HB1.out.1.ok.four HB1.out.1.ok.lt, HB1.out.1, HB1.out.2⟩⟩
  case round =>
    obtain ⟨k, m, hk, rfl, rfl, s', H1⟩ := hrel
    clear HB1
    have hk1 : k + m ≤ n := by omega
    by_cases hlt : 0 < m
    · obtain ⟨ht, hw1, kp⟩ := H1.out
      have hd : (x + k) / 64 < 4 := by omega
      have hdi : ((x : Int) + k) / 64 < 4 := by omega
      obtain ⟨hcx, hfx⟩ := hw1.setC hd
      dsimp only at hcx
      obtain ⟨v, hv⟩ : ∃ v, v = s'.getD ((x + k) / 64) 0 := ⟨_, rfl⟩
      rw [← hv] at hcx
      have hq := u16_quo ((x : Int) + k) 64 (by omega) (by omega) (by omega)
      have hvl : v < 18446744073709551616 := by rw [hv]; exact ht.2.1 _
      obtain ⟨r, hr1, hr2, hr3, hm⟩ : ∃ r : Nat, r ≤ m ∧ 0 < r ∧ (x + k) % 64 + r ≤ 64 ∧ ((m < 64 - (x + k) % 64 ∧ r = m) ∨ (64 - (x + k) % 64 ≤ m ∧ r = 64 - (x + k) % 64)) := by
        by_cases hr : m < 64 - (x + k) % 64
        · exact ⟨m, by omega, by omega, by omega, .inl ⟨hr, rfl⟩⟩
        · exact ⟨64 - (x + k) % 64, by omega, by omega, by omega, .inr ⟨by omega, rfl⟩⟩
      obtain ⟨z, hz⟩ : ∃ z, z = ones r ((x + k) % 64) := ⟨_, rfl⟩
      have hzl : z < 18446744073709551616 := by rw [hz]; exact ones_lt (by omega)
      have hor := u64_or_nat v z hvl hzl
      have hand := u64_and_nat v z hvl hzl
      have hz0 : v &&& z = 0 := by rw [hv, hz]; exact ht.free hr3 (fun i h1 h2 => HFr.out i (by omega) (by omega))
      rw [hz0] at hand
      obtain ⟨A, hA⟩ : ∃ A, A = (x + k) % 64 := ⟨_, rfl⟩
      have hAi : ((x : Int) + k) % 64 = (A : Int) := by omega
      obtain ⟨J, hJ⟩ : ∃ J, J = (x + k) / 64 := ⟨_, rfl⟩
      have hJi : ((x : Int) + k) / 64 = (J : Int) := by omega
      have hput : Hid (∀ Wd, Calls Faag.prog 87 #[.int .u64 0, .int .u64 18446744073709551615, .int .u8 A, .int .u8 r] Wd fun e w' => e = .returned (.int .u64 (z : Nat)) ∧ w' = Wd) := hide (by
        rw [hz, ← hA, ← put_ones (by omega)]
        exact fun Wd => put_calls 0 18446744073709551615 A r (by omega) (by omega) (by omega) (by omega) Wd)
      have HF := hide (show ∀ nq, ∃ s'', TakenS W.set x (k + r) s'' ∧ WkAt ((wr.drewN nq).setCell ⟨b, J, none⟩ (.int .u64 ((v ||| z : Nat) : Int))) b { W with set := s'' } ∧ Keeps (fun k => k = b) w ((wr.drewN nq).setCell ⟨b, J, none⟩ (.int .u64 ((v ||| z : Nat) : Int))) from by
        intro nq
        refine ⟨_, ht.more hd hr3, ?_, (kp.drewN nq).setCell (p := ⟨b, J, none⟩) (fun _ => rfl) _⟩
        have hwd : WkAt (wr.drewN nq) b { W with set := s' } := ⟨hw1.row.drewN nq, hw1.ok⟩
        have := hwd.putSet (j := J) (n := v ||| z) (by omega) (or_lt hvl hzl)
        rw [hv, hz, hJ] at this ⊢
        exact this)
      have hA64 : A < 64 := by omega
      have hJ4 : J < 4 := by omega
      rw [← hJ] at hcx hfx hd
      rw [hJi] at hq hdi
      have HK := hide hk
      rw [← hA] at hm hr3
      clear H1 ht hw1 kp hz hz0 hv hk hA hJ HFr
      rcases hm with ⟨hr, Hr⟩ | ⟨hr, Hr⟩
      · have hri : (m : Int) < 64 - (A : Int) := by omega
        subst Hr
        go_wp2_with fail
        refine (hput.out _).mono ?_
        rintro e w2 ⟨rfl, e1⟩
        rw [e1]
        clear e1
        go_wp2_with fail
        refine wp_region_qd 11 (by kernel_rfl) (by kernel_rfl) ?_
        simp only [List.take_succ_cons, List.take_zero, List.drop_succ_cons, List.drop_zero]
        repeat (go_big_quiet_step (fail))
        refine wpQuiet_nil ?_
        rintro _ ⟨nq, rfl⟩
        go_wp2_with fail
        go_roundw
        case rel =>
          obtain ⟨s2, q1, q2, q3⟩ := HF.out nq
          have hkk := HK.out
          exact ⟨k + r, 0, by omega, by go_num, by go_num, s2, hide ⟨q1, q2, q3⟩⟩
        case measure => simp [intOf]; omega
      · have hri : 64 - (A : Int) ≤ m := by omega
        have hrr : (64 : Int) - (A : Int) = (r : Int) := by omega
        have HR := hide Hr
        clear Hr
        go_wp2_with fail
        refine (hput.out _).mono ?_
        rintro e w2 ⟨rfl, e1⟩
        rw [e1]
        clear e1
        go_wp2_with fail
        refine wp_region_qd 11 (by kernel_rfl) (by kernel_rfl) ?_
        simp only [List.take_succ_cons, List.take_zero, List.drop_succ_cons, List.drop_zero]
        repeat (go_big_quiet_step (fail))
        refine wpQuiet_nil ?_
        rintro _ ⟨nq, rfl⟩
        go_wp2_with fail
        go_roundw
        case rel =>
          obtain ⟨s2, q1, q2, q3⟩ := HF.out nq
          have hkk := HK.out
          exact ⟨k + r, m - r, by omega, by go_num, by go_num, s2, hide ⟨q1, q2, q3⟩⟩
        case measure => simp [intOf]; omega
    · have : m = 0 := by omega
      subst this
      have : k = n := by omega
      subst this
      go_wp2_with fail
      go_ret
      obtain ⟨ht, hw1, kp⟩ := H1.out
      exact ⟨rfl, s', ht, hw1, kp⟩
end Go.Proofs.YgcfaaGreat

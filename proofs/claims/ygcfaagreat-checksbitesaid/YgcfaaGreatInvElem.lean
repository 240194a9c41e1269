import Derived.Test.YgcfaaGreatInvData
namespace Go.Proofs.YgcfaaGreat
open Go.RowKit Bits Bd
set_option linter.unusedVariables false

/-- A field put below bit k leaves what is 0 from k on so. -/
theorem put_pad {w v a n k : Nat} (hw : w < 18446744073709551616) (h0 : w / 2 ^ k = 0) (hk : a + n ≤ k) : putN w v a n / 2 ^ k = 0 := by
  have hlt : w < 2 ^ k := by
    rcases Nat.lt_or_ge w (2 ^ k) with h | h
    · exact h
    · have := Nat.div_pos h (Nat.two_pow_pos k); omega
  by_cases h64 : a + n ≤ 64
  · refine Nat.div_eq_of_lt (Nat.lt_pow_two_of_testBit _ (fun m hm => ?_))
    rw [putN_testBit _ _ _ _ _ hw h64, if_neg (by omega)]
    exact Nat.testBit_lt_two_pow (Nat.lt_of_lt_of_le hlt (Nat.pow_le_pow_right (by omega) hm))
  · unfold putN
    rw [if_neg h64]
    exact h0

section
variable {B : Bld}
theorem inv_setElem (i : InvC B) (ok : B.Ok) {op : Opn} {c : Bool} {B' : Bld} (hlt : op.h < B.obj.length) (hd : B.dead.getD op.h false = false) (h : setElemB B op c = some B') : InvC B' := by
  unfold setElemB at h
  dsimp only at h
  split at h
  · cases h
  · rename_i hk
    cases h
    have hk2 : (B.o op.h).kind = 2 := by omega
    have hsz : ¬ width (B.o op.h).code = 0 := by omega
    have hcn : op.n < (B.o op.h).count := by omega
    have h0 : 1 ≤ op.h := by
      rcases Nat.eq_zero_or_pos op.h with h0 | h0
      · rw [h0, i.root.1] at hk2
        exact absurd hk2 (by decide)
      · exact h0
    have hc : 2 ≤ (B.o op.h).code ∧ (B.o op.h).code ≤ 5 := by
      unfold width at hsz
      split at hsz
      · exact absurd rfl hsz
      · omega
    have hg := i.good _ h0 hlt
    have hcnt : (B.o op.h).count ≤ 128 := by rcases hg with h | h | h <;> omega
    have hS : ¬ isSt (B.o op.h) := fun hs => by have := hs.2; omega
    have hw := words_scalar' hk2 hc.1 hc.2 hcnt
    obtain ⟨sz, hsz2⟩ : ∃ s, s = width (B.o op.h).code := ⟨_, rfl⟩
    rw [← hsz2] at hw hsz ⊢
    obtain ⟨b, hb⟩ : ∃ b, b = op.n * sz := ⟨_, rfl⟩
    obtain ⟨N, hN⟩ : ∃ N, N = (B.o op.h).count * sz := ⟨_, rfl⟩
    have hbN : b + sz ≤ N := by
      rw [hb, hN]
      have := Nat.mul_le_mul_right sz (show op.n + 1 ≤ (B.o op.h).count by omega)
      rw [Nat.add_mul, Nat.one_mul] at this
      exact this
    rw [← hb]
    rw [← hN] at hw
    have own : lo (B.o op.h) ≤ (B.o op.h).at_ + b / 8 ∧ (B.o op.h).at_ + b / 8 < hi (B.o op.h) := by
      unfold lo hi
      rw [if_neg hS, if_neg hS, hw]; omega
    refine inv_setA i (fun u k hu hdu hk3 he => ?_) (fun g g1 gn gd gS he => ?_) (fun g g1 gn gd a1 a2 => ?_) (fun g g1 gn gd => ?_)
    · have hs := inv_slot_own i hu hk3
      rw [he] at hs
      have := own_one i hu hlt hs.1 hs.2 own.1 own.2
      subst this
      unfold nsl at hk3
      rw [if_neg (by omega), if_neg (by omega)] at hk3
      omega
    · have hs := tag_own i g1 gn gS
      rw [he] at hs
      have := own_one i gn hlt hs.1 hs.2 own.1 own.2
      subst this
      exact hS gS
    · have := own_one i gn hlt a1 a2 own.1 own.2
      subst this
      rw [hd] at gd; cases gd
    · by_cases hgo : g = op.h
      · subst hgo
        have hp := i.pad _ g1 gn gd
        unfold paddedP at hp ⊢
        rw [← hsz2, ← hN] at hp ⊢
        rcases hp with hp | hp | ⟨p1, p2⟩
        · exact .inl hp
        · exact .inr (.inl hp)
        · refine .inr (.inr ⟨by rw [List.length_set]; exact p1, ?_⟩)
          by_cases hy : b / 8 = N / 8
          · rw [hy, getD_set_eq p1]
            exact put_pad (ok.A _) p2 (by omega)
          · rw [getD_set_ne (by omega)]
            exact p2
      · exact pad_set i g1 gn (i.pad g g1 gn gd) (.inl (fun hx => hgo (own_one i gn hlt hx.1 hx.2 own.1 own.2)))
end
end Go.Proofs.YgcfaaGreat
